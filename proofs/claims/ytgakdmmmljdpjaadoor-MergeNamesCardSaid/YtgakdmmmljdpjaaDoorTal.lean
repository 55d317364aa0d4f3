/- Part of a proof: laws and walks. -/
import Derived.Test.YtgakdmmmljdpjaaDoorTak
import Derived.Test.YtgakdmmmljdpjaaDoorTae
import Derived.Test.YtgakdmmmljdpjaaDoorTac
set_option linter.unusedVariables false
set_option linter.unusedSimpArgs false
namespace Go.SL
open Go
abbrev PO:=Dg × List Dg
def objP (p:PG):PO:=((sortDs p.1).getD 0 default,sortDs p.1)
def leO (x y:PO):Bool:=!ltD y.1 x.1
def objsM (S:List PG):List PO:=(S.map objP).mergeSort leO
theorem leO_iff {x y:PO}:leO x y=true↔cmpD x.1 y.1≤0:=by
  unfold leO ltD
  rw [Bool.not_eq_true',decide_eq_false_iff_not,cmpD_anti]
  omega
theorem leO_trans (a b c:PO) (h1:leO a b=true) (h2:leO b c=true):leO a c=true :=
  leO_iff.2 (cmpD_trans (leO_iff.1 h1) (leO_iff.1 h2)).1
theorem leO_total (a b:PO):(leO a b||leO b a)=true:=by
  rw [Bool.or_eq_true,leO_iff,leO_iff,cmpD_anti a.1 b.1]
  omega
theorem leO_anti {l:List PO} (hi:∀ x ∈ l,∀ y ∈ l,x.1=y.1→x=y) (a b:PO) (ha:a ∈ l) (hb:b ∈ l) (h1:leO a b=true) (h2:leO b a=true):a=b:=by
  refine hi a ha b hb (cmpD_eq ?_)
  have h3:=leO_iff.1 h1
  have h4:=leO_iff.1 h2
  rw [cmpD_anti] at h4
  omega
theorem sorted_eq {l s:List PO} (hi:∀ x ∈ l,∀ y ∈ l,x.1=y.1→x=y) (hp:l.Perm s) (hs:s.Pairwise (fun x y=>leO x y=true)):l.mergeSort leO=s:=by
  refine List.Perm.eq_of_pairwise (le:=fun x y=>leO x y=true) (fun a b ha hb=>leO_anti hi a b (List.mem_mergeSort.1 ha) (hp.mem_iff.2 hb)) (List.pairwise_mergeSort leO_trans leO_total l) hs ((List.mergeSort_perm l leO).trans hp)
theorem objsM_perm {l s:List PO} (hi:∀ x ∈ l,∀ y ∈ l,x.1=y.1→x=y) (hp:l.Perm s):l.mergeSort leO=s.mergeSort leO :=
  sorted_eq hi (hp.trans (List.mergeSort_perm s leO).symm) (List.pairwise_mergeSort leO_trans leO_total s)
def prO (o:Ob):PO:=(o.p,o.l)
theorem sortOs_pr (os:List Ob):(sortOs os).map prO=(os.map prO).mergeSort leO:=by
  unfold sortOs
  exact List.map_mergeSort fun a _ b _=>rfl
def obA (o:Ob):Asr:=slE 24 5 eD o.v o.l
theorem hd_mem {l:List Dg} (h:l≠[]):(sortDs l).getD 0 default ∈ l:=by
  have h0:0<(sortDs l).length:=by rw [show (sortDs l).length=l.length from List.length_mergeSort _]; exact List.length_pos_iff.2 h
  rw [List.getD_eq_getElem?_getD,List.getElem?_eq_getElem h0]
  exact (List.mergeSort_perm l _).mem_iff.1 (List.getElem_mem _)
theorem perm_of_mem {T:Type} {g:T} {gs:List T} (h:g ∈ gs):∃ rest,gs.Perm (g::rest):=by
  obtain ⟨s,t,rfl⟩:=List.append_of_mem h
  exact ⟨s++t,List.perm_middle⟩
theorem nodup_le {T:Type}:∀ {l m:List T},l.Nodup→(∀ x ∈ l,x ∈ m)→l.length≤m.length
  | [],_,_,_=>Nat.zero_le _
  | x::t,m,hn,hs=>by
    obtain ⟨r,hr⟩:=perm_of_mem (hs x List.mem_cons_self)
    rw [List.nodup_cons] at hn
    have:=nodup_le (l:=t) (m:=r) hn.2 fun y hy=>by
      rcases List.mem_cons.1 (hr.mem_iff.1 (hs y (List.mem_cons_of_mem _ hy))) with rfl | h
      · exact absurd hy hn.1
      · exact h
    rw [hr.length_eq]
    simp only [List.length_cons]
    omega
theorem len_tot {S:List PG} (h:∀ p ∈ S,p.1≠[]):S.length≤totS S:=by
  induction S with
  | nil=>exact Nat.zero_le _
  | cons p t ih =>
    have h1:=ih fun q hq=>h q (List.mem_cons_of_mem _ hq)
    have h2:=List.length_pos_iff.2 (h p List.mem_cons_self)
    rw [tot_cons,List.length_cons]
    omega
section
variable {gs done:List Grp} {kvs todo:List (Dg × Value)} {sk:List (Nat × Value)} {os:List Ob} {w w0:World} {X:Nat→Prop} {B M:List Asr} {i:Nat} {S:List PG} {l:List Ch} {us:List Bool}
theorem RunI.len (h:RunI gs done kvs todo sk os):os.length≤gs.length:=by
  have h1:=congrArg List.length h.ob
  rw [List.length_map,List.length_map] at h1
  rw [h1]
  exact nodup_le (nodup_of_map h.nd) h.sub
theorem gs_len (hm:histM l=.ok (S,us)) (hI:IsS kvs gs S):gs.length≤500:=by
  have h1:=tot_hist hm
  have h2:=len_tot fun p hp=>(okS_hist hm p hp).1
  rw [← hI.2,List.length_map] at h2
  rw [hI.2] at h2
  omega
theorem grp_ok (hm:histM l=.ok (S,us)) (hI:IsS kvs gs S) {g:Grp} (hg:g ∈ gs):g.all≠[]∧(∀ d ∈ g.all,okD d=true)∧g.all.length≤500:=by
  have h0:absG g ∈ S:=by rw [← hI.2]; exact List.mem_map.2 ⟨g,hg,rfl⟩
  have h1:=okS_hist hm _ h0
  have h2:=tot_mem h0
  have h3:=tot_hist hm
  exact ⟨h1.1,h1.2,by simp only [absG] at h2; omega⟩
theorem RunI.done_ (h:RunI gs done kvs [] sk os) (hI:IsS kvs gs S):(sortOs os).map prO=objsM S∧(∀ o ∈ os,∃ g ∈ gs,prO o=objP (absG g)):=by
  have hp:=h.all hI.1
  have hob:os.map prO=done.map obOf:=h.ob
  have hpp:(done.map obOf).Perm (S.map objP):=by
    rw [← hI.2,List.map_map]
    exact hp.map _
  have hmem:∀ o ∈ os,∃ g ∈ gs,prO o=objP (absG g):=fun o ho=>by
    have h1:prO o ∈ done.map obOf:=by rw [← hob]; exact List.mem_map.2 ⟨o,ho,rfl⟩
    obtain ⟨g,hg,he⟩:=List.mem_map.1 h1
    exact ⟨g,h.sub g hg,he.symm⟩
  refine ⟨?_,hmem⟩
  rw [sortOs_pr,hob]
  refine objsM_perm ?_ hpp
  intro x hx y hy he
  obtain ⟨g,hg,rfl⟩:=List.mem_map.1 hx
  obtain ⟨g',hg',rfl⟩:=List.mem_map.1 hy
  have h1:=hd_mem (hI.1.some_ g (h.sub g hg))
  have h2:=hd_mem (hI.1.some_ g' (h.sub g' hg'))
  have he:(sortDs g.all).getD 0 default=(sortDs g'.all).getD 0 default:=he
  rw [← he] at h2
  rw [hI.1.uniq (h.sub g hg) (h.sub g' hg') h1 h2]
theorem RunI.inj (h:RunI gs done kvs [] sk os) (hI:IsS kvs gs S):∀ o ∈ os,∀ o' ∈ os,o.p=o'.p→o=o':=by
  have hob:os.map prO=done.map obOf:=h.ob
  have hnd:(os.map (·.p)).Nodup:=by
    rw [show os.map (·.p)=(os.map prO).map (·.1) by rw [List.map_map]; rfl,hob,List.map_map]
    have hb:(done.map (·.blk)).Nodup:=h.nd
    rw [List.nodup_iff_pairwise_ne,List.pairwise_map] at hb ⊢
    refine hb.imp_of_mem fun {a b} ha hb' hne he=>hne ?_
    have h1:=hd_mem (hI.1.some_ a (h.sub a ha))
    have h2:=hd_mem (hI.1.some_ b (h.sub b hb'))
    have he:(sortDs a.all).getD 0 default=(sortDs b.all).getD 0 default:=he
    rw [← he] at h2
    rw [hI.1.uniq (h.sub a ha) (h.sub b hb') h1 h2]
  intro o ho o' ho' he
  obtain ⟨i,hi,rfl⟩:=List.mem_iff_getElem.1 ho
  obtain ⟨j,hj,rfl⟩:=List.mem_iff_getElem.1 ho'
  have:=(List.getElem_inj (h₀:=by simpa using hi) (h₁:=by simpa using hj) hnd).1 (by simpa using he)
  subst this
  rfl
theorem RunI.pok (h:RunI gs done kvs [] sk os) (hm:histM l=.ok (S,us)) (hI:IsS kvs gs S):∀ o ∈ os,okD o.p=true:=fun o ho=>by
  obtain ⟨g,hg,he⟩:=(h.done_ hI).2 o ho
  have h1:=grp_ok hm hI hg
  have:o.p=(sortDs g.all).getD 0 default:=congrArg Prod.fst he
  rw [this]
  exact h1.2.1 _ (hd_mem h1.1)
theorem St.bigSnoc {p:Asr} {l:List Asr} (hS:St w0 w X B (p::bigA l::M)):St w0 w X B (bigA (l++[p])::M):=by
  have h1:St w0 w X B ([]++p::bigA l::M):=hS
  exact h1.bigUncons.bigPerm (i:=0) rfl (List.perm_append_singleton p l).symm
theorem St.mapSnoc {T:Type} {f:T→Asr} {l:List T} {x:T} (hS:St w0 w X B (f x::bigA (l.map f)::M)):St w0 w X B (bigA ((l++[x]).map f)::M):=by
  rw [List.map_append]
  exact hS.bigSnoc
theorem St.grBack {p:Asr} {g:Grp} {rest:List Grp} (hp:gs.Perm (g::rest)) (hS:St w0 w X B (p::pt g.blk (.cells #[g.v,.bool g.num] 95 (0,0))::slE 24 5 eD g.v g.all::bigA (rest.map (grA 95 24))::M)):St w0 w X B (p::bigA (gs.map (grA 95 24))::M) :=
  hS.grPut.bigPerm (i:=1) rfl (hp.symm.map _)
end
end Go.SL
namespace Go.Proofs.YtgakdmmmljdpjaaDoor
open Go Go.SL
theorem cells_of {w0 w:World} {X:Nat→Prop} {B M:List Asr} {gs:List Grp} {i:Nat} (hS:St w0 w X B M) (hi:M[i]? = some (bigA (gs.map (grA 95 24)))):∀ g ∈ gs,cellAt w g.blk:=fun g hg=>by
  have h1:(bigA (gs.map (grA 95 24))).holds (hp w):=hS.at_ hi
  have h2:=h1.1 (grA 95 24 g) (List.mem_map.2 ⟨g,hg,rfl⟩)
  have h3:(pt g.blk (.cells #[g.v,.bool g.num] 95 (0,0))).holds (hp w):=h2.1 _ List.mem_cons_self
  exact ⟨_,_,h3⟩
theorem RunI.good {w:World} {gs done:List Grp} {kvs todo:List (Dg × Value)} {sk:List (Nat × Value)} {os:List Ob} (h:RunI gs done kvs todo sk os) (hc:∀ g ∈ gs,cellAt w g.blk):∀ p ∈ sk,cellAt w p.1:=fun p hp=>by
  obtain ⟨g,hg,he⟩:=List.mem_map.1 (h.keys p hp)
  rw [← he]
  exact hc g (h.sub g hg)
end Go.Proofs.YtgakdmmmljdpjaaDoor

namespace Go.SL
open Go
def numC (l:List Dg):Nat:=l.countP fun d=>decide (0<d.num)
def apartS (S:List PG):Prop:=S.Pairwise fun g g'=>∀ d ∈ g.1,d ∉ g'.1
def okG (g:PG):Prop:=g.1≠[]∧g.1.Nodup∧numC g.1=if g.2=true then 1 else 0
def wfS (S:List PG):Prop:=apartS S∧∀ g ∈ S,okG g
section
variable {S S' T:List PG} {c:Ch} {x y p:PG} {a b d:Dg}
end
section
variable {S:List PG} {p q:PG} {d:Dg}
end
end Go.SL

namespace Go.Proofs.YtgakdmmmljdpjaaDoor
open Go Go.SL
theorem C_ok_38:callOK Tryd.prog 38=true:=by kernel_rfl
theorem T_bytes_46:tBytes Tryd.prog 46=some 56:=by kernel_rfl
theorem T_elem_39:tElem Tryd.prog 39=some 46:=by kernel_rfl
theorem T_mapof_78:tMapOf Tryd.prog 78=some (79,.bool false):=by kernel_rfl
set_option maxHeartbeats 4000000 in
set_option maxRecDepth 4000 in
theorem run_ok (vl:Value) (l:List Ch) (w0:World) (hG:Lent w0 ordA) (hl:rdOK (hp w0) 12 vl l.length (encs eC l)) (hfit:vfit vl) (S:List PG) (us:List Bool) (hm:histM l=.ok (S,us)) :
    Ret Tryd.prog 16 #[vl] w0 (G:=Value × List Ob) (fun g=>.tuple #[g.1,.int .i64 0]) (fun g w=>St w0 w noX [] [slE 46 6 eO g.1 g.2,bigA (g.2.map obA)]∧g.2.map prO=objsM S):=by
  refine ret_of_W (lv:=[vl]) Tryd.func16 rfl rfl rfl (fun a hf=>?_)
  replace hf:Fr a 41 [] [(0,vl)]:=hf
  have hS:St w0 w0 noX [ordA,rdv 12 vl l.length (encs eC l)] []:=((St.refl w0).lend0 hl).lendA hG
  have hlm:=hl.2.1
  unfold maxLen at hlm
  refine W.seq ?_
  refine W.regionL (l:=[0,1]) rfl ?_
  refine O.val hf rfl rfl rfl (RunV.assign rfl) ?_
  clear hf a; intro a hf
  refine O.val hf rfl rfl rfl (RunV.assign rfl) ?_
  clear hf a; intro a hf
  refine O.nil ?_
  refine k_seq ?_
  refine W.seq ?_
  refine W.regionL (l:=[0,1,2,3,4,5,6,7,8]) rfl ?_
  refine O.val hf rfl rfl rfl (RunV.move rfl) ?_
  clear hf a; intro a hf
  refine O.callR hf rfl rfl rfl (RunE.call (av:=#[vl]) C_ok_32 rfl rfl rfl) (history_ok vl l _ (hS.bptO (i:=0) rfl) (hS.rdAt (j:=1) rfl) hfit hm) ?_
  clear hf a
  rintro ⟨uv,bm,kvs,gs⟩ w1 ⟨hS1,hI⟩ a hf
  replace hf:Fr a _ _ ((13,.tuple #[.map (some bm),uv,.int .i64 0])::_):=hf
  replace hS:=(hS.call hS1).eqM (N:=[stA 95 24 bm kvs gs,sl 4 1 uv us.length (bools us)]) rfl
  clear hS1
  refine O.val hf rfl rfl rfl (RunV.move rfl) ?_
  clear hf a; intro a hf
  refine O.val hf rfl rfl rfl (RunV.extract rfl rfl) ?_
  clear hf a; intro a hf
  refine O.val hf rfl rfl rfl (RunV.extract rfl rfl) ?_
  clear hf a; intro a hf
  refine O.val hf rfl rfl rfl (RunV.extract rfl rfl) ?_
  clear hf a; intro a hf
  refine O.val hf rfl rfl rfl (RunV.assign rfl) ?_
  clear hf a; intro a hf
  refine O.val hf rfl rfl rfl (RunV.assign rfl) ?_
  clear hf a; intro a hf
  refine O.val hf rfl rfl rfl (RunV.assign rfl) ?_
  clear hf a; intro a hf
  refine O.nil ?_
  have hL:=hI.1
  replace hS:=St.stOpen hS
  replace hS:St w0 _ noX [ordA,rdv 12 vl l.length (encs eC l)] [mp dV bm kvs,bigA (gs.map (grA 95 24)),sl 4 1 uv us.length (bools us)]:=hS
  refine k_seq ?_
  replace hf:Fr a 41 [] [(2,.slice none 0 0),(3,.int .i64 0),(4,.map (some bm)),(6,.int .i64 0)]:=hf.to ⟨rfl,rfl,rfl,rfl,trivial⟩
  refine W.seq ?_
  refine W.seq ?_
  refine W.regionL (l:=[0,1]) rfl ?_
  refine O.val hf rfl rfl rfl (RunV.move rfl) ?_
  clear hf a; intro a hf
  refine O.val hf rfl rfl rfl (RunV.toB (c:=false) (RunV.neq rfl rfl) (by decide)) ?_
  clear hf a; intro a hf
  refine O.nil ?_
  refine k_seq ?_
  replace hf:Fr a 41 [] [(2,.slice none 0 0),(3,.int .i64 0),(4,.map (some bm)),(6,.int .i64 0),(18,.bool false)]:=hf.to ⟨rfl,rfl,rfl,rfl,rfl,trivial⟩
  refine W.if_ff hf rfl ?_
  refine W.skip ?_
  refine k_seq ?_
  replace hf:Fr a 41 [] [(2,.slice none 0 0),(3,.int .i64 0),(4,.map (some bm))]:=hf.to ⟨rfl,rfl,rfl,trivial⟩
  refine W.seq ?_
  refine W.regionL (l:=[0]) rfl ?_
  refine O.val hf rfl rfl rfl (RunV.assign rfl) ?_
  clear hf a; intro a hf
  refine O.nil ?_
  refine k_seq ?_
  refine W.seq ?_
  refine W.regionL (l:=[0,1]) rfl ?_
  refine O.makeP ptrV hf hS rfl rfl ?_
  clear hf hS a; intro b_m2 w a hbb_m2 hS hf
  refine O.val hf rfl rfl rfl (RunV.assign rfl) ?_
  clear hf a; intro a hf
  refine O.nil ?_
  refine k_seq ?_
  replace hf:Fr a 41 [] [(2,.slice none 0 0),(3,.int .i64 0),(4,.map (some bm)),(7,.slice none 0 0),(8,.map (some b_m2))]:=hf.to ⟨rfl,rfl,rfl,rfl,rfl,trivial⟩
  refine W.seq ?_
  refine W.seq ?_
  refine W.regionL (l:=[0,1]) rfl ?_
  refine O.val hf rfl rfl rfl (RunV.move rfl) ?_
  clear hf a; intro a hf
  refine O.rangeP (j:=1) hf hS rfl rfl Tryd.underlying71 rfl rfl ?_
  clear hf hS a; intro b_r3 w a hbb_r3 hS hf
  replace hS:St w0 w noX [ordA,rdv 12 vl l.length (encs eC l)] [mp ptrV b_m2 ([]),rgA dV bm b_r3 kvs kvs none,bigA (gs.map (grA 95 24)),sl 4 1 uv us.length (bools us)]:=hS
  refine O.nil ?_
  refine k_seq ?_
  replace hf:Fr a 41 [] [(2,.slice none 0 0),(3,.int .i64 0),(7,.slice none 0 0),(8,.map (some b_m2)),(22,.pointer (some ⟨b_r3,0,none⟩))]:=hf.to ⟨rfl,rfl,rfl,rfl,rfl,trivial⟩
  refine W.block ?_
  replace hS:=hS.nilSl 46 6
  replace hS:St w0 _ noX [ordA,rdv 12 vl l.length (encs eC l)] (bigA (([]:List Ob).map obA)::[sl 46 6 (.slice none 0 0) (([]:List Ob).length) (encs eO ([]:List Ob)),mp ptrV b_m2 ([]),rgA dV bm b_r3 kvs kvs none,bigA (gs.map (grA 95 24)),sl 4 1 uv us.length (bools us)]):=St.bigClose (N:=[]) (l:=[]) hS
  refine W.loop (G:=(List Grp) × (List (Dg × Value)) × (Option (Dg × Value)) × (List (Nat × Value)) × (List Ob) × (Value)) (fun g a w=>match g with | (done,todo,last,sk,os,vo)=>Fr a 41 [] [(2,.slice none 0 0),(3,.int .i64 0),(7,vo),(8,.map (some b_m2)),(22,.pointer (some ⟨b_r3,0,none⟩))]∧St w0 w noX [ordA,rdv 12 vl l.length (encs eC l)] [bigA (os.map obA),sl 46 6 vo os.length (encs eO os),mp ptrV b_m2 sk,rgA dV bm b_r3 kvs todo last,bigA (gs.map (grA 95 24)),sl 4 1 uv us.length (bools us)]∧(RunI gs done kvs todo sk os)) (fun g=>match g with | (done,todo,last,sk,os,vo)=>todo.length) ([],kvs,none,[],[],.slice none 0 0) ?_ ?_
  · refine ⟨hf.to ⟨rfl,rfl,(by first | rfl | exact congrArg some (congrArg (Value.int _) (by omega))),rfl,rfl,trivial⟩,hS,?_⟩
    · exact RunI.start hL
  clear hf hS a
  rintro ⟨done,todo,last,sk,os,vo⟩ a w ⟨hf,hS,hR⟩
  refine W.seq ?_
  refine W.regionL (l:=[0,1]) rfl ?_
  refine O.nextP (j:=3) hf hS rfl rfl rfl rfl ?_ ?_
  · clear hf; intro htd a hf
    rw [htd] at hR
    have hln:=Nat.le_trans hR.len (gs_len hm hI)
    refine O.val hf rfl rfl rfl (RunV.extract rfl rfl) ?_
    clear hf a; intro a hf
    refine O.nil ?_
    refine k_seq ?_
    replace hf:Fr a 41 [] [(2,.slice none 0 0),(3,.int .i64 0),(7,vo),(8,.map (some b_m2)),(22,.pointer (some ⟨b_r3,0,none⟩)),(24,.bool false)]:=hf.to ⟨rfl,rfl,rfl,rfl,rfl,rfl,trivial⟩
    refine W.seq ?_
    refine W.if_ff hf rfl ?_
    refine W.exit ?_
    refine k_then_exit ?_
    refine k_then_exit ?_
    refine k_blk ?_
    refine k_seq ?_
    replace hf:Fr a 41 [] [(2,.slice none 0 0),(3,.int .i64 0),(7,vo)]:=hf.to ⟨rfl,rfl,rfl,trivial⟩
    refine W.seq ?_
    refine W.regionL (l:=[0,1]) rfl ?_
    refine O.val hf rfl rfl rfl (RunV.move rfl) ?_
    clear hf a; intro a hf
    refine O.callR hf rfl rfl rfl (RunE.call (av:=#[vo,.func (.func 39) #[] #[]]) C_ok_38 rfl rfl rfl) (sortO_spec vo os _ (RunI.pok hR hm hI) (RunI.inj hR hI) (hS.bptO (i:=0) rfl) (hS.slAt (j:=1) rfl) (by omega) (fun h=>hS.apart (i:=1) (j:=0) rfl rfl 0 rfl h)) ?_
    clear hf a
    rintro _ w4 hS1 a hf
    replace hf:Fr a _ _ ((39,.tuple #[])::_):=hf
    replace hS:=(hS.callX1 hS1 (i:=1) rfl (fun _ h=>h)).eqM (N:=[sl 46 6 vo ((sortOs os).length) (encs eO (sortOs os)),bigA (os.map obA),mp ptrV b_m2 sk,rgA dV bm b_r3 kvs todo last,bigA (gs.map (grA 95 24)),sl 4 1 uv us.length (bools us)]) rfl
    clear hS1
    refine O.nil ?_
    refine k_seq ?_
    replace hf:Fr a 41 [] [(2,.slice none 0 0),(3,.int .i64 0),(7,vo)]:=hf.to ⟨rfl,rfl,rfl,trivial⟩
    refine W.seq ?_
    refine W.regionL (l:=[0,1,2]) rfl ?_
    refine O.val hf rfl rfl rfl (RunV.move rfl) ?_
    clear hf a; intro a hf
    refine O.val hf rfl rfl rfl (RunV.assign rfl) ?_
    clear hf a; intro a hf
    refine O.val hf rfl rfl rfl (RunV.assign rfl) ?_
    clear hf a; intro a hf
    refine O.nil ?_
    refine k_seq ?_
    replace hf:Fr a 41 [] [(2,vo),(3,.int .i64 0)]:=hf.to ⟨rfl,rfl,trivial⟩
    refine W.ret ?_
    refine post2 hf rfl (ResOK.tmp rfl) (ResOK.tmp rfl) ?_
    have hdn:=hR.done_ hI
    have hpo:(os.map obA).Perm ((sortOs os).map obA):=(List.mergeSort_perm os _).symm.map _
    replace hS:=hS.front (i:=1) (M':=[bigA (os.map obA),sl 46 6 vo ((sortOs os).length) (encs eO (sortOs os)),mp ptrV b_m2 sk,rgA dV bm b_r3 kvs todo last,bigA (gs.map (grA 95 24)),sl 4 1 uv us.length (bools us)]) rfl rfl
    replace hS:=hS.front (i:=1) (M':=[sl 46 6 vo ((sortOs os).length) (encs eO (sortOs os)),bigA (os.map obA),mp ptrV b_m2 sk,rgA dV bm b_r3 kvs todo last,bigA (gs.map (grA 95 24)),sl 4 1 uv us.length (bools us)]) rfl rfl
    replace hS:=hS.bigPerm (i:=1) rfl hpo
    exact ⟨(vo,sortOs os),rfl,(hS.sub (List.Sublist.cons_cons _ (List.Sublist.cons_cons _ (List.nil_sublist _)))).noB,hdn.1⟩
  · clear hf hS; intro ts_ tp_ tt_ w a htd hS hf
    replace hS:St w0 w noX [ordA,rdv 12 vl l.length (encs eC l)] [bigA (os.map obA),sl 46 6 vo os.length (encs eO os),mp ptrV b_m2 sk,rgA dV bm b_r3 kvs (ts_++tt_) (some tp_),bigA (gs.map (grA 95 24)),sl 4 1 uv us.length (bools us)]:=hS
    rw [htd] at hR
    obtain ⟨gr,hg,hpv⟩:=hR.inn tp_ (by simp)
    obtain ⟨td,tv⟩:=tp_
    simp only at hpv
    subst hpv
    replace hS:St w0 w noX [ordA,rdv 12 vl l.length (encs eC l)] [bigA (os.map obA),sl 46 6 vo os.length (encs eO os),mp ptrV b_m2 sk,rgA dV bm b_r3 kvs (ts_++tt_) (some (td,ptrV gr.blk)),bigA (gs.map (grA 95 24)),sl 4 1 uv us.length (bools us)]:=hS
    replace hf:Fr a _ _ ((23,.tuple #[.bool true,.agg #[.int .i64 td.num,.int .i64 td.yr,.int .u8 td.half,.int .u8 td.sec,.int .i64 td.cyc],.pointer (some ⟨gr.blk,0,none⟩)])::_):=hf
    refine O.val hf rfl rfl rfl (RunV.extract rfl rfl) ?_
    clear hf a; intro a hf
    refine O.nil ?_
    refine k_seq ?_
    replace hf:Fr a 41 [] [(2,.slice none 0 0),(3,.int .i64 0),(7,vo),(8,.map (some b_m2)),(22,.pointer (some ⟨b_r3,0,none⟩)),(24,.bool true)]:=hf.to ⟨rfl,rfl,rfl,rfl,rfl,rfl,trivial⟩
    refine W.seq ?_
    refine W.if_tt hf rfl ?_
    refine W.skip ?_
    refine k_seq ?_
    refine W.block ?_
    refine W.seq ?_
    refine W.regionL (l:=[0,1,2]) rfl ?_
    refine O.val hf rfl rfl rfl (RunV.entryP hS (j:=3) rfl rfl) ?_; clear hf a; intro a hf
    replace hf:Fr a _ _ ((25,.tuple #[.agg #[.int .i64 td.num,.int .i64 td.yr,.int .u8 td.half,.int .u8 td.sec,.int .i64 td.cyc],.pointer (some ⟨gr.blk,0,none⟩)])::_):=hf
    refine O.val hf rfl rfl rfl (RunV.extract rfl rfl) ?_
    clear hf a; intro a hf
    refine O.val hf rfl rfl rfl (RunV.assign rfl) ?_
    clear hf a; intro a hf
    refine O.nil ?_
    refine k_seq ?_
    replace hf:Fr a 41 [] [(2,.slice none 0 0),(3,.int .i64 0),(7,vo),(8,.map (some b_m2)),(10,.pointer (some ⟨gr.blk,0,none⟩)),(22,.pointer (some ⟨b_r3,0,none⟩)),(24,.bool true)]:=hf.to ⟨rfl,rfl,rfl,rfl,rfl,rfl,rfl,trivial⟩
    refine W.seq ?_
    rcases (show getP gr.blk sk=some (.bool true)∨getP gr.blk sk=none from by rw [hR.seen]; split <;> simp) with hsk | hsk
    ·
      refine W.regionL (l:=[0,1,2,3]) rfl ?_
      refine O.val hf rfl rfl rfl (RunV.move rfl) ?_
      clear hf a; intro a hf
      refine O.val hf rfl rfl rfl (RunV.move rfl) ?_
      clear hf a; intro a hf
      refine O.val hf rfl rfl rfl (RunV.lookP (k:=gr.blk) (kvs:=sk) T_mapof_78 keyG (cells_of hS (i:=4) rfl _ hg) (RunI.good hR (cells_of hS (i:=4) rfl)) rfl rfl (hS.mpAt (j:=2) rfl) (by rw [hsk] <;> rfl)) ?_
      clear hf a; intro a hf
      refine O.val (v:=.bool false) hf rfl rfl rfl (RunV.not (b:=true) rfl) ?_
      clear hf a; intro a hf
      refine O.nil ?_
      refine k_seq ?_
      replace hf:Fr a 41 [] [(2,.slice none 0 0),(3,.int .i64 0),(7,vo),(8,.map (some b_m2)),(10,.pointer (some ⟨gr.blk,0,none⟩)),(22,.pointer (some ⟨b_r3,0,none⟩)),(24,.bool true),(30,.bool false)]:=hf.to ⟨rfl,rfl,rfl,rfl,rfl,rfl,rfl,rfl,trivial⟩
      refine W.if_ff hf rfl ?_
      refine W.skip ?_
      refine k_blk_normal ?_
      refine k_then ⟨(done,ts_++tt_,some (td,ptrV gr.blk),sk,os,vo),⟨hf.to ⟨rfl,rfl,(by first | rfl | exact congrArg some (congrArg (Value.int _) (by omega))),rfl,rfl,trivial⟩,?_,?_⟩,?_⟩
      · exact hS.eqM rfl
      · exact RunI.old (g:=gr) (p:=(td,ptrV gr.blk)) hR rfl hsk
      · dsimp only; rw [htd]; simp only [List.length_append,List.length_cons]; omega
    ·
      refine W.regionL (l:=[0,1,2,3]) rfl ?_
      refine O.val hf rfl rfl rfl (RunV.move rfl) ?_
      clear hf a; intro a hf
      refine O.val hf rfl rfl rfl (RunV.move rfl) ?_
      clear hf a; intro a hf
      refine O.val hf rfl rfl rfl (RunV.lookP (k:=gr.blk) (kvs:=sk) T_mapof_78 keyG (cells_of hS (i:=4) rfl _ hg) (RunI.good hR (cells_of hS (i:=4) rfl)) rfl rfl (hS.mpAt (j:=2) rfl) (by rw [hsk] <;> rfl)) ?_
      clear hf a; intro a hf
      refine O.val (v:=.bool true) hf rfl rfl rfl (RunV.not (b:=false) rfl) ?_
      clear hf a; intro a hf
      refine O.nil ?_
      refine k_seq ?_
      replace hf:Fr a 41 [] [(2,.slice none 0 0),(3,.int .i64 0),(7,vo),(8,.map (some b_m2)),(10,.pointer (some ⟨gr.blk,0,none⟩)),(22,.pointer (some ⟨b_r3,0,none⟩)),(24,.bool true),(30,.bool true)]:=hf.to ⟨rfl,rfl,rfl,rfl,rfl,rfl,rfl,rfl,trivial⟩
      refine W.if_tt hf rfl ?_
      refine W.seq ?_
      refine W.regionL (l:=[0,1,2]) rfl ?_
      refine O.val hf rfl rfl rfl (RunV.move rfl) ?_
      clear hf a; intro a hf
      refine O.val hf rfl rfl rfl (RunV.move rfl) ?_
      clear hf a; intro a hf
      refine O.putP (j:=2) (k:=gr.blk) (v:=(.bool true)) (kvs:=sk) (M':=[bigA (os.map obA),sl 46 6 vo os.length (encs eO os),mp ptrV b_m2 (setP gr.blk (.bool true) sk),rgA dV bm b_r3 kvs (ts_++tt_) (some (td,ptrV gr.blk)),bigA (gs.map (grA 95 24)),sl 4 1 uv us.length (bools us)]) hf hS rfl T_mapof_78 keyG (cells_of hS (i:=4) rfl _ hg) (RunI.good hR (cells_of hS (i:=4) rfl)) rfl rfl rfl rfl rfl ?_
      clear hS; intro w hS
      refine O.nil ?_
      refine k_seq ?_
      replace hf:Fr a 41 [] [(2,.slice none 0 0),(3,.int .i64 0),(7,vo),(8,.map (some b_m2)),(10,.pointer (some ⟨gr.blk,0,none⟩)),(22,.pointer (some ⟨b_r3,0,none⟩)),(24,.bool true),(30,.bool true)]:=hf.to ⟨rfl,rfl,rfl,rfl,rfl,rfl,rfl,rfl,trivial⟩
      refine W.regionL (l:=[0,1,2,3,4,5]) rfl ?_
      obtain ⟨rest,hpm⟩:=perm_of_mem hg
      have hgo:=grp_ok hm hI hg
      have hln:=Nat.le_trans hR.len (gs_len hm hI)
      replace hS:=hS.front (i:=4) (M':=[bigA (gs.map (grA 95 24)),bigA (os.map obA),sl 46 6 vo os.length (encs eO os),mp ptrV b_m2 (setP gr.blk (.bool true) sk),rgA dV bm b_r3 kvs (ts_++tt_) (some (td,ptrV gr.blk)),sl 4 1 uv us.length (bools us)]) rfl rfl
      replace hS:=hS.front (i:=3) (M':=[mp ptrV b_m2 (setP gr.blk (.bool true) sk),bigA (gs.map (grA 95 24)),bigA (os.map obA),sl 46 6 vo os.length (encs eO os),rgA dV bm b_r3 kvs (ts_++tt_) (some (td,ptrV gr.blk)),sl 4 1 uv us.length (bools us)]) rfl rfl
      replace hS:=St.grTake hS hpm
      replace hS:St w0 _ noX [ordA,rdv 12 vl l.length (encs eC l)] [mp ptrV b_m2 (setP gr.blk (.bool true) sk),pt gr.blk (.cells #[gr.v,.bool gr.num] 95 (0,0)),sl 24 5 gr.v gr.all.length (encs eD gr.all),bigA (rest.map (grA 95 24)),bigA (os.map obA),sl 46 6 vo os.length (encs eO os),rgA dV bm b_r3 kvs (ts_++tt_) (some (td,ptrV gr.blk)),sl 4 1 uv us.length (bools us)]:=hS
      refine O.val hf rfl rfl rfl (RunV.move rfl) ?_
      clear hf a; intro a hf
      refine O.val hf rfl rfl rfl (RunV.move rfl) ?_
      clear hf a; intro a hf
      refine O.callR hf rfl rfl rfl (RunE.call (av:=#[.pointer (some ⟨gr.blk,0,none⟩)]) C_ok_37 rfl rfl rfl) (object_spec gr.blk gr.v gr.num gr.all _ (hS.bptO (i:=0) rfl) (hS.lentAt (i:=1) rfl) (hS.slr (j:=2) rfl) (slOK.fit (hS.slAt (j:=2) rfl)) hgo.1 (by omega) hgo.2.1) ?_
      clear hf a
      rintro ov w5 hS1 a hf
      replace hf:Fr a _ _ ((35,.agg #[.int .i64 (((sortDs gr.all).getD 0 default).num),.int .i64 (((sortDs gr.all).getD 0 default).yr),.int .u8 (((sortDs gr.all).getD 0 default).half),.int .u8 (((sortDs gr.all).getD 0 default).sec),.int .i64 (((sortDs gr.all).getD 0 default).cyc),ov])::_):=hf
      replace hS:=(hS.call hS1).eqM (N:=[sl 24 5 ov ((sortDs gr.all).length) (encs eD (sortDs gr.all)),mp ptrV b_m2 (setP gr.blk (.bool true) sk),pt gr.blk (.cells #[gr.v,.bool gr.num] 95 (0,0)),sl 24 5 gr.v gr.all.length (encs eD gr.all),bigA (rest.map (grA 95 24)),bigA (os.map obA),sl 46 6 vo os.length (encs eO os),rgA dV bm b_r3 kvs (ts_++tt_) (some (td,ptrV gr.blk)),sl 4 1 uv us.length (bools us)]) rfl
      clear hS1
      obtain ⟨oa,om,oc,hov⟩:=slv_of (hS.slr (j:=0) rfl)
      obtain ⟨o,ho1,ho2,ho3⟩:∃ o:Ob,((sortDs gr.all).getD 0 default)=o.p∧sortDs gr.all=o.l∧ov=o.v:=⟨⟨((sortDs gr.all).getD 0 default),oa,om,oc,sortDs gr.all⟩,rfl,rfl,hov⟩
      rw [ho1,ho3] at hf; rw [ho2,ho3] at hS
      replace hS:St w0 _ noX [ordA,rdv 12 vl l.length (encs eC l)] [obA o,mp ptrV b_m2 (setP gr.blk (.bool true) sk),pt gr.blk (.cells #[gr.v,.bool gr.num] 95 (0,0)),sl 24 5 gr.v gr.all.length (encs eD gr.all),bigA (rest.map (grA 95 24)),bigA (os.map obA),sl 46 6 vo os.length (encs eO os),rgA dV bm b_r3 kvs (ts_++tt_) (some (td,ptrV gr.blk)),sl 4 1 uv us.length (bools us)]:=hS
      replace hf:Fr a _ _ ((35,.agg #[.int .i64 o.p.num,.int .i64 o.p.yr,.int .u8 o.p.half,.int .u8 o.p.sec,.int .i64 o.p.cyc,.slice o.ad o.n o.c])::_):=hf
      refine O.buildSlice (cs':=#[.int .i64 o.p.num,.int .i64 o.p.yr,.int .u8 o.p.half,.int .u8 o.p.sec,.int .i64 o.p.cyc,.slice o.ad o.n o.c]) (zs:=#[.int .i64 0,.int .i64 0,.int .u8 0,.int .u8 0,.int .i64 0,.slice none 0 0]) hf hS rfl rfl T_elem_39 T_size_46 T_zero_46 rfl rfl rfl rfl rfl ?_
      clear hf hS a; intro b_s6 w a hbb_s6 hS hf
      refine O.append1 (j:=7) (jj:=0) hf hS rfl rfl T_elem_39 T_size_46 T_bytes_46 T_zero_46 rfl rfl rfl rfl rfl rfl rfl rfl (by unfold maxLen; omega) (by omega) ?_
      clear hf hS a; intro v7 w a hS hf
      replace hS:=hS.eqM (N:=[pt b_s6 (.cells #[.int .i64 o.p.num,.int .i64 o.p.yr,.int .u8 o.p.half,.int .u8 o.p.sec,.int .i64 o.p.cyc,.slice o.ad o.n o.c] 46 (0,0)),obA o,mp ptrV b_m2 (setP gr.blk (.bool true) sk),pt gr.blk (.cells #[gr.v,.bool gr.num] 95 (0,0)),sl 24 5 gr.v gr.all.length (encs eD gr.all),bigA (rest.map (grA 95 24)),bigA (os.map obA),sl 46 6 v7 (os.length+1) (encs eO os++[.int .i64 o.p.num,.int .i64 o.p.yr,.int .u8 o.p.half,.int .u8 o.p.sec,.int .i64 o.p.cyc,.slice o.ad o.n o.c]),rgA dV bm b_r3 kvs (ts_++tt_) (some (td,ptrV gr.blk)),sl 4 1 uv us.length (bools us)]) rfl
      replace hS:=hS.reE (i:=7) (M':=[pt b_s6 (.cells #[.int .i64 o.p.num,.int .i64 o.p.yr,.int .u8 o.p.half,.int .u8 o.p.sec,.int .i64 o.p.cyc,.slice o.ad o.n o.c] 46 (0,0)),obA o,mp ptrV b_m2 (setP gr.blk (.bool true) sk),pt gr.blk (.cells #[gr.v,.bool gr.num] 95 (0,0)),sl 24 5 gr.v gr.all.length (encs eD gr.all),bigA (rest.map (grA 95 24)),bigA (os.map obA),sl 46 6 v7 ((os++[o]).length) (encs eO (os++[o])),rgA dV bm b_r3 kvs (ts_++tt_) (some (td,ptrV gr.blk)),sl 4 1 uv us.length (bools us)]) rfl (sl_snoc (enc:=eO) (l:=os) (x:=o)) rfl
      refine O.val hf rfl rfl rfl (RunV.assign rfl) ?_
      clear hf a; intro a hf
      refine O.nil ?_
      replace hS:=hS.front (i:=6) (M':=[bigA (os.map obA),pt b_s6 (.cells #[.int .i64 o.p.num,.int .i64 o.p.yr,.int .u8 o.p.half,.int .u8 o.p.sec,.int .i64 o.p.cyc,.slice o.ad o.n o.c] 46 (0,0)),obA o,mp ptrV b_m2 (setP gr.blk (.bool true) sk),pt gr.blk (.cells #[gr.v,.bool gr.num] 95 (0,0)),sl 24 5 gr.v gr.all.length (encs eD gr.all),bigA (rest.map (grA 95 24)),sl 46 6 v7 ((os++[o]).length) (encs eO (os++[o])),rgA dV bm b_r3 kvs (ts_++tt_) (some (td,ptrV gr.blk)),sl 4 1 uv us.length (bools us)]) rfl rfl
      replace hS:=hS.front (i:=2) (M':=[obA o,bigA (os.map obA),pt b_s6 (.cells #[.int .i64 o.p.num,.int .i64 o.p.yr,.int .u8 o.p.half,.int .u8 o.p.sec,.int .i64 o.p.cyc,.slice o.ad o.n o.c] 46 (0,0)),mp ptrV b_m2 (setP gr.blk (.bool true) sk),pt gr.blk (.cells #[gr.v,.bool gr.num] 95 (0,0)),sl 24 5 gr.v gr.all.length (encs eD gr.all),bigA (rest.map (grA 95 24)),sl 46 6 v7 ((os++[o]).length) (encs eO (os++[o])),rgA dV bm b_r3 kvs (ts_++tt_) (some (td,ptrV gr.blk)),sl 4 1 uv us.length (bools us)]) rfl rfl
      replace hS:=St.mapSnoc hS
      replace hS:St w0 _ noX [ordA,rdv 12 vl l.length (encs eC l)] [bigA ((os++[o]).map obA),pt b_s6 (.cells #[.int .i64 o.p.num,.int .i64 o.p.yr,.int .u8 o.p.half,.int .u8 o.p.sec,.int .i64 o.p.cyc,.slice o.ad o.n o.c] 46 (0,0)),mp ptrV b_m2 (setP gr.blk (.bool true) sk),pt gr.blk (.cells #[gr.v,.bool gr.num] 95 (0,0)),sl 24 5 gr.v gr.all.length (encs eD gr.all),bigA (rest.map (grA 95 24)),sl 46 6 v7 ((os++[o]).length) (encs eO (os++[o])),rgA dV bm b_r3 kvs (ts_++tt_) (some (td,ptrV gr.blk)),sl 4 1 uv us.length (bools us)]:=hS
      replace hS:=hS.front (i:=5) (M':=[bigA (rest.map (grA 95 24)),bigA ((os++[o]).map obA),pt b_s6 (.cells #[.int .i64 o.p.num,.int .i64 o.p.yr,.int .u8 o.p.half,.int .u8 o.p.sec,.int .i64 o.p.cyc,.slice o.ad o.n o.c] 46 (0,0)),mp ptrV b_m2 (setP gr.blk (.bool true) sk),pt gr.blk (.cells #[gr.v,.bool gr.num] 95 (0,0)),sl 24 5 gr.v gr.all.length (encs eD gr.all),sl 46 6 v7 ((os++[o]).length) (encs eO (os++[o])),rgA dV bm b_r3 kvs (ts_++tt_) (some (td,ptrV gr.blk)),sl 4 1 uv us.length (bools us)]) rfl rfl
      replace hS:=hS.front (i:=5) (M':=[sl 24 5 gr.v gr.all.length (encs eD gr.all),bigA (rest.map (grA 95 24)),bigA ((os++[o]).map obA),pt b_s6 (.cells #[.int .i64 o.p.num,.int .i64 o.p.yr,.int .u8 o.p.half,.int .u8 o.p.sec,.int .i64 o.p.cyc,.slice o.ad o.n o.c] 46 (0,0)),mp ptrV b_m2 (setP gr.blk (.bool true) sk),pt gr.blk (.cells #[gr.v,.bool gr.num] 95 (0,0)),sl 46 6 v7 ((os++[o]).length) (encs eO (os++[o])),rgA dV bm b_r3 kvs (ts_++tt_) (some (td,ptrV gr.blk)),sl 4 1 uv us.length (bools us)]) rfl rfl
      replace hS:=hS.front (i:=5) (M':=[pt gr.blk (.cells #[gr.v,.bool gr.num] 95 (0,0)),sl 24 5 gr.v gr.all.length (encs eD gr.all),bigA (rest.map (grA 95 24)),bigA ((os++[o]).map obA),pt b_s6 (.cells #[.int .i64 o.p.num,.int .i64 o.p.yr,.int .u8 o.p.half,.int .u8 o.p.sec,.int .i64 o.p.cyc,.slice o.ad o.n o.c] 46 (0,0)),mp ptrV b_m2 (setP gr.blk (.bool true) sk),sl 46 6 v7 ((os++[o]).length) (encs eO (os++[o])),rgA dV bm b_r3 kvs (ts_++tt_) (some (td,ptrV gr.blk)),sl 4 1 uv us.length (bools us)]) rfl rfl
      replace hS:=hS.front (i:=5) (M':=[mp ptrV b_m2 (setP gr.blk (.bool true) sk),pt gr.blk (.cells #[gr.v,.bool gr.num] 95 (0,0)),sl 24 5 gr.v gr.all.length (encs eD gr.all),bigA (rest.map (grA 95 24)),bigA ((os++[o]).map obA),pt b_s6 (.cells #[.int .i64 o.p.num,.int .i64 o.p.yr,.int .u8 o.p.half,.int .u8 o.p.sec,.int .i64 o.p.cyc,.slice o.ad o.n o.c] 46 (0,0)),sl 46 6 v7 ((os++[o]).length) (encs eO (os++[o])),rgA dV bm b_r3 kvs (ts_++tt_) (some (td,ptrV gr.blk)),sl 4 1 uv us.length (bools us)]) rfl rfl
      replace hS:=St.grBack hpm hS
      replace hS:St w0 _ noX [ordA,rdv 12 vl l.length (encs eC l)] [mp ptrV b_m2 (setP gr.blk (.bool true) sk),bigA (gs.map (grA 95 24)),bigA ((os++[o]).map obA),pt b_s6 (.cells #[.int .i64 o.p.num,.int .i64 o.p.yr,.int .u8 o.p.half,.int .u8 o.p.sec,.int .i64 o.p.cyc,.slice o.ad o.n o.c] 46 (0,0)),sl 46 6 v7 ((os++[o]).length) (encs eO (os++[o])),rgA dV bm b_r3 kvs (ts_++tt_) (some (td,ptrV gr.blk)),sl 4 1 uv us.length (bools us)]:=hS
      refine k_blk_normal ?_
      replace hS:=hS.front (i:=6) (M':=[sl 4 1 uv us.length (bools us),mp ptrV b_m2 (setP gr.blk (.bool true) sk),bigA (gs.map (grA 95 24)),bigA ((os++[o]).map obA),pt b_s6 (.cells #[.int .i64 o.p.num,.int .i64 o.p.yr,.int .u8 o.p.half,.int .u8 o.p.sec,.int .i64 o.p.cyc,.slice o.ad o.n o.c] 46 (0,0)),sl 46 6 v7 ((os++[o]).length) (encs eO (os++[o])),rgA dV bm b_r3 kvs (ts_++tt_) (some (td,ptrV gr.blk))]) rfl rfl
      replace hS:=hS.front (i:=2) (M':=[bigA (gs.map (grA 95 24)),sl 4 1 uv us.length (bools us),mp ptrV b_m2 (setP gr.blk (.bool true) sk),bigA ((os++[o]).map obA),pt b_s6 (.cells #[.int .i64 o.p.num,.int .i64 o.p.yr,.int .u8 o.p.half,.int .u8 o.p.sec,.int .i64 o.p.cyc,.slice o.ad o.n o.c] 46 (0,0)),sl 46 6 v7 ((os++[o]).length) (encs eO (os++[o])),rgA dV bm b_r3 kvs (ts_++tt_) (some (td,ptrV gr.blk))]) rfl rfl
      replace hS:=hS.front (i:=6) (M':=[rgA dV bm b_r3 kvs (ts_++tt_) (some (td,ptrV gr.blk)),bigA (gs.map (grA 95 24)),sl 4 1 uv us.length (bools us),mp ptrV b_m2 (setP gr.blk (.bool true) sk),bigA ((os++[o]).map obA),pt b_s6 (.cells #[.int .i64 o.p.num,.int .i64 o.p.yr,.int .u8 o.p.half,.int .u8 o.p.sec,.int .i64 o.p.cyc,.slice o.ad o.n o.c] 46 (0,0)),sl 46 6 v7 ((os++[o]).length) (encs eO (os++[o]))]) rfl rfl
      replace hS:=hS.front (i:=3) (M':=[mp ptrV b_m2 (setP gr.blk (.bool true) sk),rgA dV bm b_r3 kvs (ts_++tt_) (some (td,ptrV gr.blk)),bigA (gs.map (grA 95 24)),sl 4 1 uv us.length (bools us),bigA ((os++[o]).map obA),pt b_s6 (.cells #[.int .i64 o.p.num,.int .i64 o.p.yr,.int .u8 o.p.half,.int .u8 o.p.sec,.int .i64 o.p.cyc,.slice o.ad o.n o.c] 46 (0,0)),sl 46 6 v7 ((os++[o]).length) (encs eO (os++[o]))]) rfl rfl
      replace hS:=hS.front (i:=6) (M':=[sl 46 6 v7 ((os++[o]).length) (encs eO (os++[o])),mp ptrV b_m2 (setP gr.blk (.bool true) sk),rgA dV bm b_r3 kvs (ts_++tt_) (some (td,ptrV gr.blk)),bigA (gs.map (grA 95 24)),sl 4 1 uv us.length (bools us),bigA ((os++[o]).map obA),pt b_s6 (.cells #[.int .i64 o.p.num,.int .i64 o.p.yr,.int .u8 o.p.half,.int .u8 o.p.sec,.int .i64 o.p.cyc,.slice o.ad o.n o.c] 46 (0,0))]) rfl rfl
      replace hS:=hS.front (i:=5) (M':=[bigA ((os++[o]).map obA),sl 46 6 v7 ((os++[o]).length) (encs eO (os++[o])),mp ptrV b_m2 (setP gr.blk (.bool true) sk),rgA dV bm b_r3 kvs (ts_++tt_) (some (td,ptrV gr.blk)),bigA (gs.map (grA 95 24)),sl 4 1 uv us.length (bools us),pt b_s6 (.cells #[.int .i64 o.p.num,.int .i64 o.p.yr,.int .u8 o.p.half,.int .u8 o.p.sec,.int .i64 o.p.cyc,.slice o.ad o.n o.c] 46 (0,0))]) rfl rfl
      replace hS:=hS.sub (N:=[bigA ((os++[o]).map obA),sl 46 6 v7 ((os++[o]).length) (encs eO (os++[o])),mp ptrV b_m2 (setP gr.blk (.bool true) sk),rgA dV bm b_r3 kvs (ts_++tt_) (some (td,ptrV gr.blk)),bigA (gs.map (grA 95 24)),sl 4 1 uv us.length (bools us)]) (.cons_cons _ (.cons_cons _ (.cons_cons _ (.cons_cons _ (.cons_cons _ (.cons_cons _ (.cons _ .slnil)))))))
      refine k_then ⟨(done++[gr],ts_++tt_,some (td,ptrV gr.blk),setP gr.blk (.bool true) sk,os++[o],v7),⟨hf.to ⟨rfl,rfl,(by first | rfl | exact congrArg some (congrArg (Value.int _) (by omega))),rfl,rfl,trivial⟩,?_,?_⟩,?_⟩
      · exact hS.eqM rfl
      · exact RunI.new (g:=gr) (p:=(td,ptrV gr.blk)) hR hg rfl hsk (by unfold obOf; rw [ho1,ho2])
      · dsimp only; rw [htd]; simp only [List.length_append,List.length_cons]; omega
end Go.Proofs.YtgakdmmmljdpjaaDoor

namespace Go.SL
open Go
section
variable {r:Option Nat} {P:Program} {Q:Exit→Act→World→Prop} {ops:Array Oper} {i:Nat} {rest l:List Nat} {a:Act} {w w' w0:World} {n:Nat} {ds:List Deferred} {L:List (Nat × Value)}
  {d:Nat} {op:Op} {ty:TypeId} {v:Value} {y:Code} {id:Nat} {X:Nat→Prop} {B M N R:List Asr} {pp qq:Asr}
def mvk (L:List (Nat × Value)) (n:Nat):Option Oper→Option (Nat × Value)
  | some ⟨some d,.move x,_,_,_,none⟩=>match Nat.blt d n,ev L x with
    | true,some v=>some (d,v)
    | _,_=>none
  | some ⟨some d,.assign x,_,_,_,none⟩=>match Nat.blt d n,ev L x with
    | true,some v=>some (d,v)
    | _,_=>none
  | _=>none
def opk (n:Nat):Option Oper→Option (Nat × Op × TypeId)
  | some ⟨some d,op,ty,_,_,none⟩=>match noDefer op,Nat.blt d n with
    | true,true=>some (d,op,ty)
    | _,_=>none
  | _=>none
theorem ov (hf:Fr a n ds L) (h:opk n ops[i]? = some (d,op,ty)) (hr:RunV P n ds L op ty w v w') (k:∀ a',Fr a' n ds ((d,v)::L)→O r P ops Q rest a' w'):O r P ops Q (i::rest) a w:=by
  unfold opk at h
  split at h
  · split at h
    · cases h
      exact O.val hf (by assumption) (by assumption) (by assumption) hr k
    · cases h
  · cases h
class App (A B:List Asr) (C:outParam (List Asr)):Prop where
  eq:A++B=C
instance App.nil:App [] B B:=⟨rfl⟩
instance App.cons [h:App N B R]:App (pp::N) B (pp::R):=⟨congrArg (pp::·) h.eq⟩
theorem St.cl [h:App N M R] (hS:St w0 w X B M) (hc:St w w' noX [] N):St w0 w' X B R:=h.eq▸hS.call hc
class Del (i:Nat) (M:List Asr) (p:outParam Asr) (R:outParam (List Asr)):Prop where
  get:M[i]? = some p
  eq:M.eraseIdx i=R
instance Del.zero:Del 0 (pp::M) pp M:=⟨rfl,rfl⟩
instance Del.succ [h:Del i M pp R]:Del (i+1) (qq::M) pp (qq::R):=⟨h.get,congrArg (qq::·) h.eq⟩
theorem St.fr (hS:St w0 w X B M) (i:Nat) [h:Del i M pp R]:St w0 w X B (pp::R):=hS.front h.get (congrArg (pp::·) h.eq)
theorem bl {a b:Nat} (h:Nat.ble a b=true):a≤b:=Nat.le_of_ble_eq_true h
theorem St.p {b:Nat} {o:Obj} (h:St w0 w X B M) (i:Nat) (hi:M[i]? = some (pt b o)):w.heap[b]? = some o:=h.ptAt hi
theorem St.b {T:Type} {sz:Nat} {enc:T→List Value} {l:List T} (h:St w0 w X B M) (j:Nat) (hi:B[j]? = some (rdE sz enc v l)):rdEOK (hp w) sz enc v l:=h.rdB hi
theorem St.s {T:Type} {e sz:Nat} {enc:T→List Value} {l:List T} (h:St w0 w X B M) (j:Nat) (hi:M[j]? = some (slE e sz enc v l)):rdEOK (hp w) sz enc v l:=h.rdS hi
class Sel (bs:List Nat) (M:List Asr) (N:outParam (List Asr)):Prop where
  sub:N.Sublist M
instance Sel.nil:Sel [] M []:=⟨List.nil_sublist _⟩
instance Sel.one {bs:List Nat} [h:Sel bs M N]:Sel (1::bs) (pp::M) (pp::N):=⟨h.sub.cons_cons _⟩
instance Sel.zero {bs:List Nat} [h:Sel bs M N]:Sel (0::bs) (pp::M) N:=⟨h.sub.cons _⟩
theorem St.sl (hS:St w0 w X B M) (bs:List Nat) [h:Sel bs M N]:St w0 w X B N:=hS.sub h.sub
def pk (L:List (Nat × Value)):List (Nat × Value)→List (Nat × Value)
  | []=>[]
  | (k,_)::t=>match lk L k with
    | some v=>(k,v)::pk L t
    | none=>[]
theorem pk_subs:∀ {L':List (Nat × Value)},pk L L'=L'→Subs L L'
  | [],_=>trivial
  | (k,v)::t,h=>by
    simp only [pk] at h
    split at h
    · rename_i u hu
      simp only [List.cons.injEq,Prod.mk.injEq,true_and] at h
      exact ⟨h.1▸hu,pk_subs h.2⟩
    · cases h
theorem Fr.q {L':List (Nat × Value)} (h:Fr a n ds L) (e:pk L L'=L'):Fr a n ds L':=h.to (pk_subs e)
def gpk (n:Nat) (L:List (Nat × Value)) (ops:Array Oper):Option Oper→Option (Nat × Op × TypeId × Bool × Bool)
  | some ⟨some d,op,ty,_,_,some (jj,want)⟩=>match (ops[jj]?).bind (·.dst) with
    | some dj=>match lk L dj,noDefer op,Nat.blt d n with
      | some (.bool c),true,true=>some (d,op,ty,c,want)
      | _,_,_=>none
    | none=>none
  | _=>none
theorem sk {c want:Bool} (hf:Fr a n ds L) (h:gpk n L ops ops[i]? = some (d,op,ty,c,want)) (hc:c=!want) (k:∀ a',Fr a' n ds ((d,undef)::L)→O r P ops Q rest a' w):O r P ops Q (i::rest) a w:=by
  unfold gpk at h
  split at h
  · split at h
    · split at h
      · cases h
        exact O.skipB hf (by assumption) (by assumption) (by assumption) hc (by assumption) k
      · cases h
    · cases h
  · cases h
def clk (n:Nat) (L:List (Nat × Value)):Option Oper→Option (Nat × FuncId × Array Value)
  | some ⟨some d,.call ⟨.value f,args,_⟩,_,_,_,none⟩=>match Nat.blt d n,ev L f,evA L args.toList with
    | true,some (.func (.func fid) first captured),some vs=>some (d,fid,(first.toList++(vs++captured.toList)).toArray)
    | _,_,_=>none
  | _=>none
theorem oc {f:FuncId} {av:Array Value} {G:Type} {u:G→Value} {R:G→World→Prop} (hf:Fr a n ds L) (h:clk n L ops[i]? = some (d,f,av)) (hk:callOK P f=true) (hc:Ret P f av w u R)
    (k:∀ g w',R g w'→∀ a',Fr a' n ds ((d,u g)::L)→O r P ops Q rest a' w'):O r P ops Q (i::rest) a w:=by
  unfold clk at h
  split at h
  · split at h
    · cases h
      exact O.callR hf (by assumption) rfl (by assumption) (RunE.call hk (by assumption) (by assumption) (by apply Array.ext'; simp)) hc k
    · cases h
  · cases h
class SetA (j:Nat) (M:List Asr) (q:Asr) (M':outParam (List Asr)):Prop where
  eq:M.set j q=M'
instance SetA.zero:SetA 0 (pp::M) qq (qq::M):=⟨rfl⟩
instance SetA.succ {j:Nat} [h:SetA j M qq R]:SetA (j+1) (pp::M) qq (pp::R):=⟨congrArg (pp::·) h.eq⟩
end
end Go.SL

namespace Go.SL
open Go
section
variable {r:Option Nat} {P:Program} {ops:Array Oper} {i n:Nat} {ds:List Deferred} {L:List (Nat × Value)} {a:Act} {w:World}
theorem gt {d:Nat} {v:Value} (hf:Fr a n ds L) (h:dstOf ops i=some d) (hl:lk L d=some v):∀ d',dstOf ops i=some d'→a.tmps[d']? = some v:=fun d' h'=>by
  rw [h] at h'
  cases h'
  exact hf.get _ _ hl
theorem nD {R:Act→World→Prop} (hf:Fr a n ds L) (h:R a w):O r P ops (fun e a' w'=>e=.normal∧Fr a' n ds []∧R a' w') [] a w:=O.nil ⟨rfl,hf.to trivial,h⟩
end
end Go.SL

namespace Go.SL
open Go
section
variable {r:Option Nat} {P:Program} {ops:Array Oper} {Q:Exit→Act→World→Prop} {a:Act} {w w0:World} {n:Nat} {ds:List Deferred} {L:List (Nat × Value)} {X:Nat→Prop} {B M:List Asr}
theorem O.buildC {i d j m len:Nat} {t ty e:TypeId} {rest:List Nat} {pos:String} {af:Array Edge} {z:Value} {c:Bool} {p:Asr} {parts:Array (Nat × Operand)} {vs:List (Nat × Value)} {cs' zs:Array Value}
    (hf:Fr a n ds L) (hS:St w0 w X B M) (hj:M[j]? = some (condA c p)) (hc:c=false) (ho:ops[i]? = some ⟨some d,.buildSlice t len parts,ty,pos,af,none⟩) (hd:Nat.blt d n=true)
    (he:tElem P t=some e) (hs:tSize P e=some m) (hz:tZero P e=some z) (h0:Nat.ble (len*m) 16777216=true) (h1:Nat.blt 0 (len*m)=true) (hzs:((List.range (len*m)).map (z.cells[· % z.cells.size]!)).toArray=zs)
    (hv:evP L parts.toList=some vs) (hb:Instr.fill (fun i=>some (i*m,m)) zs vs=some cs')
    (k:∀ b w' a',St w0 w' X B (M.set j (pt b (.cells cs' e (0,0))))→Fr a' n ds ((d,.slice (some ⟨b,0,none⟩) len len)::L)→O r P ops Q rest a' w'):O r P ops Q (i::rest) a w:=by
  refine O.buildSlice hf hS ho hd he hs hz h0 h1 hzs hv hb (fun b w' a' hb hS' hf'=>k b w' a' ?_ hf')
  subst hc
  have h1:=hS'.sep
  obtain ⟨hjl,hje⟩:=List.getElem?_eq_some_iff.1 hj
  refine ⟨hS'.os,hS'.tape,hS'.output,hS'.size,hS'.old,?_,hS'.bor⟩
  have hp:=h1.1
  have hM:=h1.2
  clear h1 hS hS' k hf hf' ho
  revert j
  induction M with
  | nil=>intro j hj hjl _; simp at hj
  | cons q t ih =>
    intro j hj hjl hje
    cases j with
    | zero =>
      simp only [List.set_cons_zero]
      exact ⟨⟨hp.1,hp.2.1,fun s hs=>hp.2.2 s (by simp [hs])⟩,hM.2⟩
    | succ j =>
      simp only [List.set_cons_succ]
      have h2:=ih ⟨hp.1,hp.2.1,fun s hs=>hp.2.2 s (by simp [hs])⟩ hM.2 (j:=j) (by simpa using hj) (by simpa using hjl) (by simpa using hje)
      refine ⟨⟨hM.1.1,hM.1.2.1,fun s hs b' hb' hsb=>?_⟩,h2⟩
      rcases List.mem_or_eq_of_mem_set hs with h3 | h3
      · exact hM.1.2.2 s h3 b' hb' hsb
      · subst h3
        exact hp.2.2 q (by simp) b' hsb hb'
end
section
variable {r:Option Nat} {P:Program} {ops:Array Oper} {Q:Exit→Act→World→Prop} {a:Act} {w w0:World} {n:Nat} {ds:List Deferred} {γ:Type} {X:Nat→Prop} {B M:List Asr}
theorem oj {T:Type} {x y:T} (h:some x=some y):x=y:=Option.some.inj h
def Lq (v:Nat→Value) (i:Nat) (l:List Nat) (N:Nat):List Value:=(List.range N).map fun j=>match Nat.beq j i||l.contains j with
  | true=>undef
  | false=>v j
end
end Go.SL
