/- Bright's loops, and its law. -/
import Derived.Test.YtmgmoedcpndppaaMa
set_option linter.unusedVariables false
set_option linter.unusedSimpArgs false
namespace Go.Proofs.Ytmgmoedcpndppaa
open Go Go.SL
section
variable {F:Nat} (hF:10000≤F)
theorem take_one {T:Type} {l:List T} {i:Nat} {x:T} (h:l[i]? = some x):l.take (i+1)=l.take i++[x]:=by
  rw [List.take_add_one,h]; rfl
theorem mg_at {l:List Star} {q:Int} {x:Star} (h:l[q.toNat]? = some x):mg l q=x.2.2.2.2.2.2.2:=by
  unfold mg; rw [h]; rfl
theorem sget_in {ins:List Bool} {q:Int} (h:0≤q):sget ins q=ins.getD q.toNat false:=by
  unfold sget; rw [if_neg (by omega)]
theorem marks_set {N i:Nat} {ins:List Bool} {s:List Int} {q:Int} (hl:ins.length=N) (h:∀ j:Nat,j<N→(ins.getD j false=true↔(j:Int) ∈ s)) (h0:0≤q) (h1:q<(N:Int)) :
    ∀ j:Nat,j<N→((ins.set q.toNat true).getD j false=true↔(j:Int) ∈ s++[q]):=fun j hj=>by
  rw [List.mem_append,List.mem_singleton,← h j hj,List.getD_eq_getElem?_getD,List.getElem?_set,List.getD_eq_getElem?_getD]
  by_cases hq:q.toNat=j
  · rw [if_pos hq,if_pos (by omega)]
    simp only [Option.getD_some,true_iff]
    exact .inr (by omega)
  · rw [if_neg hq]
    constructor
    · exact .inl
    · rintro (h | h)
      · exact h
      · omega
theorem b_l4 (l:List Star) (x4:List Int) (x5:Int) (hl:l.length≤20) (hk:x4.length≤20):∀ (k n i:Nat) (seen:List Bool),i+k=x4.length→k<n→seen.length=l.length→(∀ j:Nat,j<l.length→(seen.getD j false=true↔(j:Int) ∈ x4.take i)) →
    (∀ q ∈ x4.take i,0≤q∧q<(l.length:Int))→(x4.take i).Nodup →
    m_catalog_Bright_l4 F x4 l x5 n ((x4.take i).map (PP l)) i seen=some ([],2)∨((∀ q ∈ x4,0≤q∧q<(l.length:Int))∧x4.Nodup∧m_catalog_Bright_l4 F x4 l x5 n ((x4.take i).map (PP l)) i seen=m_catalog_Bright_j3 F x5 (x4.map (PP l)))
  | 0,n+1,i,seen,hi,hn,h1,h2,h3,h4=>by
    right
    rw [List.take_of_length_le (by omega)] at h3 h4 ⊢
    refine ⟨h3,h4,?_⟩
    show m_catalog_Bright_b4 F x4 l x5 _ _ (i:Int) seen=_
    unfold m_catalog_Bright_b4
    rw [if_neg (by omega)]
  | k+1,n+1,i,seen,hi,hn,h1,h2,h3,h4=>by
    have hil:i<x4.length:=by omega
    obtain ⟨q,hq⟩:∃ q,x4[i]? = some q:=⟨_,List.getElem?_eq_getElem hil⟩
    have e:m_catalog_Bright_l4 F x4 l x5 (n+1) ((x4.take i).map (PP l)) i seen=m_catalog_Bright_b4 F x4 l x5 (m_catalog_Bright_l4 F x4 l x5 n) ((x4.take i).map (PP l)) i seen:=rfl
    rw [e]
    unfold m_catalog_Bright_b4
    rw [if_pos (by omega),idx_nat,hq,Option.bind_some]
    by_cases hc:((decide (q<0)||decide (q≥(l.length:Int)))||sget seen q)=true
    · left
      rw [if_pos hc]
    · rw [if_neg hc]
      simp only [Bool.or_eq_true,decide_eq_true_eq,not_or] at hc
      obtain ⟨⟨c1,c2⟩,c3⟩:=hc
      have hq0:0≤q:=by omega
      have hql:q<(l.length:Int):=by omega
      rw [sget_in hq0] at c3
      have hnot:q ∉ x4.take i:=fun hm=>c3 ((h2 q.toNat (by omega)).2 (by rw [Int.toNat_of_nonneg hq0]; exact hm))
      obtain ⟨s,hs1,hs2⟩:=idx_at hq0 hql
      rw [if_pos ⟨hq0,by rw [h1]; exact hql⟩,hs1,Option.bind_some,if_pos (by rw [List.length_map,List.length_take]; omega),i64w (by omega)]
      have et:(x4.take i).map (PP l)++[(q,s.2.2.2.2.2.2.2)]=(x4.take (i+1)).map (PP l):=by
        rw [take_one hq,List.map_append]
        show _=_++[(q,mg l q)]
        rw [mg_at hs2]
      rw [et]
      refine b_l4 l x4 x5 hl hk k n (i+1) _ (by omega) (by omega) (by rw [List.length_set]; exact h1) ?_ ?_ ?_
      · rw [take_one hq]
        exact marks_set (i:=i) h1 h2 hq0 hql
      · rw [take_one hq]
        intro p hp
        rcases List.mem_append.1 hp with hp | hp
        · exact h3 p hp
        · rw [List.mem_singleton.1 hp]; exact ⟨hq0,hql⟩
      · rw [take_one hq,List.nodup_append]
        refine ⟨h4,by simp,fun a ha b hb=>?_⟩
        rw [List.mem_singleton.1 hb]
        intro hab
        exact hnot (hab▸ha)
theorem b_l2 (S:List (Int × Int)) (x5:Int) (L:List (Int × Int)) (hL:L=lsub S 0 (if (S.length:Int)<x5 then (S.length:Int) else x5)) (hle:L.length≤20):∀ (k n i:Nat),i+k=L.length→k<n →
    m_catalog_Bright_l2 F (L.length:Int) S x5 n ((L.take i).map (·.1)) i=some (L.map (·.1),0)
  | 0,n+1,i,hi,hn=>by
    show m_catalog_Bright_b2 F (L.length:Int) S x5 _ _ (i:Int)=_
    unfold m_catalog_Bright_b2 m_catalog_Bright_j1
    rw [if_neg (by omega),List.take_of_length_le (by omega)]
  | k+1,n+1,i,hi,hn=>by
    have hil:i<L.length:=by omega
    obtain ⟨q,hq⟩:∃ q,L[i]? = some q:=⟨_,List.getElem?_eq_getElem hil⟩
    show m_catalog_Bright_b2 F (L.length:Int) S x5 (m_catalog_Bright_l2 F (L.length:Int) S x5 n) _ (i:Int)=_
    unfold m_catalog_Bright_b2
    rw [if_pos (by omega),← hL,idx_nat,hq,Option.bind_some,if_pos (by rw [List.length_map,List.length_take]; omega),i64w (by omega)]
    have et:(L.take i).map (·.1)++[q.1]=(L.take (i+1)).map (·.1):=by rw [take_one hq,List.map_append]; rfl
    rw [et]
    exact b_l2 S x5 L hL hle k n (i+1) (by omega) (by omega)
def mm (x4:List Int) (x5:Int):Int:=if (x4.length:Int)<x5 then (x4.length:Int) else x5
def outs (l:List Star) (x4:List Int) (x5:Int):List Int:=(ord l x4).take (mm x4 x5).toNat
include hF in
theorem b_j3 (l:List Star) (x4:List Int) (x5:Int) (hk:x4.length≤20):m_catalog_Bright_j3 F x5 (x4.map (PP l))=if x5<0 then some ([],2) else some (outs l x4 x5,0):=by
  unfold m_catalog_Bright_j3 m_slices_SortFunc_catalog_ranked_catalog_ranked_oFcatalog_ranked_compare
  by_cases h5:x5<0
  · rw [if_pos h5,if_pos h5]
  · rw [if_neg h5,if_neg h5,if_pos (by rw [List.length_map]; omega),Option.bind_some]
    have hln:(srtF (ltOf cmpR) (x4.map (PP l))).length=x4.length:=by rw [srtF_len,List.length_map]
    rw [if_pos (by rw [hln]; unfold sbd; split <;> omega),Option.bind_some]
    obtain ⟨L,hL⟩:∃ L,L=lsub (srtF (ltOf cmpR) (x4.map (PP l))) 0 (if ((srtF (ltOf cmpR) (x4.map (PP l))).length:Int)<x5 then ((srtF (ltOf cmpR) (x4.map (PP l))).length:Int) else x5):=⟨_,rfl⟩
    rw [← hL]
    have hLe:L=((ord l x4).map (PP l)).take (mm x4 x5).toNat:=by
      rw [hL,hln,srt_PP]
      unfold lsub mm
      rfl
    have hlen:L.length≤20:=by
      rw [hLe,List.length_take,List.length_map,(ord_perm l x4).length_eq]; omega
    have:=b_l2 (F:=F) _ x5 L hL hlen L.length F 0 (by omega) (by omega)
    rw [show ((L.take 0).map (·.1):List Int)=[] from rfl] at this
    rw [show ((0:Nat):Int)=0 from rfl] at this
    rw [this,hLe]
    unfold outs
    rw [List.map_take,List.map_map,show ((fun x:Int × Int=>x.1) ∘ PP l)=id from rfl,List.map_id]
include hF in
theorem b_Bright (l:List Star) (x4:List Int) (x5:Int) (hl:l.length≤20) (hk:x4.length≤20) (hn:∀ x ∈ l,x.1.size≤100) :
    m_catalog_Bright F l x4 x5=some ([],8)∨m_catalog_Bright F l x4 x5=some ([],2)∨((∀ q ∈ x4,0≤q∧q<(l.length:Int))∧x4.Nodup∧0≤x5∧m_catalog_Bright F l x4 x5=some (outs l x4 x5,0)):=by
  unfold m_catalog_Bright
  obtain ⟨r,hr,h8⟩:=c_checkAll hF l hn hl
  rw [hr,Option.bind_some]
  rcases h8 with rfl | rfl
  · right
    rw [if_neg (by decide)]
    have:=b_l4 (F:=F) l x4 x5 hl hk x4.length F 0 (List.replicate l.length false) (by omega) (by omega) (by rw [List.length_replicate]) (fun j hj=>by rw [rep_getD]; simp) (by simp) (by simp)
    rw [show ((x4.take 0).map (PP l))=[] from rfl,show ((0:Nat):Int)=0 from rfl] at this
    rcases this with h | ⟨h1,h2,h3⟩
    · exact .inl h
    · rw [h3,b_j3 hF l x4 x5 hk]
      by_cases h5:x5<0
      · rw [if_pos h5]; exact .inl rfl
      · rw [if_neg h5]; exact .inr ⟨h1,h2,by omega,rfl⟩
  · left
    rw [if_pos (by decide)]
section
variable (l:List Star) (x4:List Int) (out:List Int)
theorem l_l6 (hl:l.length≤20) (ho:out.length≤20) (hr:∀ q ∈ out,0≤q∧q<(l.length:Int)) (hnd:out.Nodup) (hs:out.Pairwise (le l)):∀ (k n i:Nat) (ins:List Bool),i+k=out.length→k<n→ins.length=l.length→(∀ j:Nat,j<l.length→(ins.getD j false=true↔(j:Int) ∈ out.take i)) →
    ∃ ins':List Bool,ins'.length=l.length∧(∀ j:Nat,j<l.length→(ins'.getD j false=true↔(j:Int) ∈ out))∧m_law19_CatalogBright_l6 F (out,0) l x4 true n ins i=m_law19_CatalogBright_l2 F x4 l ins' (out,0) true F 0 0
  | 0,n+1,i,ins,hi,hn,h1,h2=>by
    rw [List.take_of_length_le (by omega)] at h2
    refine ⟨ins,h1,h2,?_⟩
    show m_law19_CatalogBright_b6 F (out,0) l x4 true _ ins (i:Int)=_
    unfold m_law19_CatalogBright_b6 m_law19_CatalogBright_j5
    rw [if_neg (by show ¬ (i:Int)<(out.length:Int); omega)]
  | k+1,n+1,i,ins,hi,hn,h1,h2=>by
    have hil:i<out.length:=by omega
    obtain ⟨q,hq⟩:∃ q,out[i]? = some q:=⟨_,List.getElem?_eq_getElem hil⟩
    obtain ⟨hq0,hql⟩:=hr q (List.mem_of_getElem? hq)
    have hnot:q ∉ out.take i:=fun hm=>by
      obtain ⟨j,hj,hjq⟩:=List.getElem_of_mem hm
      rw [List.length_take] at hj
      rw [List.getElem_take] at hjq
      have e1:out[i]=q:=by
        have:=List.getElem?_eq_getElem hil
        rw [hq] at this; exact (Option.some.inj this).symm
      have:=(List.getElem_inj hnd).1 (hjq.trans e1.symm)
      omega
    have hf:ins.getD q.toNat false=false:=by
      cases hh:ins.getD q.toNat false with
      | false=>rfl
      | true=>exact absurd ((h2 q.toNat (by omega)).1 hh) (by rw [Int.toNat_of_nonneg hq0]; exact hnot)
    obtain ⟨b,hb1,hb2⟩:=idx_at (l:=ins) hq0 (by omega)
    obtain rfl:b=false:=by
      rw [List.getD_eq_getElem?_getD,hb2] at hf; exact hf
    obtain ⟨s,hs1,hs2⟩:=idx_at (l:=l) hq0 hql
    have ih:=l_l6 hl ho hr hnd hs k n (i+1) (ins.set q.toNat true) (by omega) (by omega) (by rw [List.length_set]; exact h1) (by rw [take_one hq]; exact marks_set (i:=i) h1 h2 hq0 hql)
    obtain ⟨ins',g1,g2,g3⟩:=ih
    refine ⟨ins',g1,g2,?_⟩
    rw [← g3]
    show m_law19_CatalogBright_b6 F (out,0) l x4 true (m_law19_CatalogBright_l6 F (out,0) l x4 true n) ins (i:Int)=_
    unfold m_law19_CatalogBright_b6
    have hj7:m_law19_CatalogBright_j7 F (m_law19_CatalogBright_l6 F (out,0) l x4 true n) ins q i false=m_law19_CatalogBright_l6 F (out,0) l x4 true n (ins.set q.toNat true) ((i+1:Nat):Int):=by
      unfold m_law19_CatalogBright_j7
      rw [if_neg (by decide),i64w (by omega)]
      rfl
    rw [if_pos (by show (i:Int)<(out.length:Int); omega),show (out,(0:Int)).1=out from rfl,idx_nat,hq,Option.bind_some,show (decide (q<0)||decide (q≥(l.length:Int)))=false by simp; omega,if_neg (by decide),hb1,Option.bind_some]
    unfold m_law19_CatalogBright_j8
    rw [if_neg (by decide),hb1,Option.bind_some]
    by_cases hi0:(i:Int)>0
    · obtain ⟨i',rfl⟩:∃ i',i=i'+1:=⟨i-1,by omega⟩
      obtain ⟨p,hp⟩:∃ p,out[i']? = some p:=⟨_,List.getElem?_eq_getElem (by omega)⟩
      obtain ⟨hp0,hpl⟩:=hr p (List.mem_of_getElem? hp)
      obtain ⟨s',hs1',hs2'⟩:=idx_at (l:=l) hp0 hpl
      have hle:le l p q:=by
        have:=List.pairwise_iff_getElem.1 hs i' (i'+1) (by omega) hil (by omega)
        have e1:out[i']=p:=by
          have h:=List.getElem?_eq_getElem (show i'<out.length by omega)
          rw [hp] at h; exact (Option.some.inj h).symm
        have e2:out[i'+1]=q:=by
          have h:=List.getElem?_eq_getElem hil
          rw [hq] at h; exact (Option.some.inj h).symm
        rwa [e1,e2] at this
      rw [if_pos hi0,show (out,(0:Int)).1=out from rfl,i64w (by omega),show ((i'+1:Nat):Int)-1=(i':Int) by omega,idx_nat,hp,Option.bind_some,hs1',Option.bind_some,hs1,Option.bind_some]
      unfold le at hle
      rw [mg_at hs2,mg_at hs2'] at hle
      rw [if_neg (by omega)]
      by_cases he:s'.2.2.2.2.2.2.2=s.2.2.2.2.2.2.2
      · rw [if_pos he,show decide (p>q)=false by simp; omega]
        exact hj7
      · rw [if_neg he]
        exact hj7
    · rw [if_neg hi0]
      exact hj7
theorem l_l2 (hF:10000≤F) (hl:l.length≤20) (hk:x4.length≤20) (hr4:∀ q ∈ x4,0≤q∧q<(l.length:Int)) (ho:out.length≤20) (hr:∀ q ∈ out,0≤q∧q<(l.length:Int)) (hlast:∀ a ∈ out,∀ q ∈ x4,q ∉ out→le l a q)
    (ins:List Bool) (h1:ins.length=l.length) (h2:∀ j:Nat,j<l.length→(ins.getD j false=true↔(j:Int) ∈ out)):∀ (k n i:Nat),i+k=x4.length→k<n →
    m_law19_CatalogBright_l2 F x4 l ins (out,0) true n (((x4.take i).countP fun q=>decide (q ∈ out):Nat):Int) i=some (decide (((x4.countP fun q=>decide (q ∈ out):Nat):Int)=(out.length:Int)))
  | 0,n+1,i,hi,hn=>by
    rw [List.take_of_length_le (by omega)]
    show m_law19_CatalogBright_b2 F x4 l ins (out,0) true _ _ (i:Int)=_
    unfold m_law19_CatalogBright_b2 m_law19_CatalogBright_j1
    rw [if_neg (by omega),Bool.true_and]
  | k+1,n+1,i,hi,hn=>by
    have hil:i<x4.length:=by omega
    obtain ⟨q,hq⟩:∃ q,x4[i]? = some q:=⟨_,List.getElem?_eq_getElem hil⟩
    obtain ⟨hq0,hql⟩:=hr4 q (List.mem_of_getElem? hq)
    have ih:=l_l2 hF hl hk hr4 ho hr hlast ins h1 h2 k n (i+1) (by omega) (by omega)
    rw [take_one hq,List.countP_append] at ih
    show m_law19_CatalogBright_b2 F x4 l ins (out,0) true (m_law19_CatalogBright_l2 F x4 l ins (out,0) true n) _ (i:Int)=_
    unfold m_law19_CatalogBright_b2
    obtain ⟨b,hb1,hb2⟩:=idx_at (l:=ins) hq0 (by omega)
    have hbb:b=true↔q ∈ out:=by
      have:=h2 q.toNat (by omega)
      rw [List.getD_eq_getElem?_getD,hb2,Int.toNat_of_nonneg hq0] at this
      exact this
    have hcl:(x4.take i).countP (fun q=>decide (q ∈ out))≤20:=Nat.le_trans List.countP_le_length (by rw [List.length_take]; omega)
    rw [if_pos (by omega),idx_nat,hq,Option.bind_some,show (decide (q<0)||decide (q≥(l.length:Int)))=false by simp; omega,if_neg (by decide),hb1,Option.bind_some]
    have hj3:∀ c:Int,m_law19_CatalogBright_j3 F (m_law19_CatalogBright_l2 F x4 l ins (out,0) true n) i c=m_law19_CatalogBright_l2 F x4 l ins (out,0) true n c ((i+1:Nat):Int):=fun c=>by
      unfold m_law19_CatalogBright_j3
      rw [i64w (by omega)]; rfl
    by_cases hm:q ∈ out
    · rw [if_pos (hbb.2 hm),hj3,i64w (by omega)]
      rw [show ([q].countP fun q=>decide (q ∈ out))=1 by simp [hm]] at ih
      push_cast at ih ⊢
      exact ih
    · rw [if_neg (fun h=>hm (hbb.1 h))]
      rw [show ([q].countP fun q=>decide (q ∈ out))=0 by simp [hm],Nat.add_zero] at ih
      rw [show (out,(0:Int)).1=out from rfl]
      have hj4:m_law19_CatalogBright_j4 F (m_law19_CatalogBright_l2 F x4 l ins (out,0) true n) i (((x4.take i).countP fun q=>decide (q ∈ out):Nat):Int) false=some (decide (((x4.countP fun q=>decide (q ∈ out):Nat):Int)=(out.length:Int))):=by
        unfold m_law19_CatalogBright_j4
        rw [if_neg (by decide),hj3]
        exact ih
      by_cases ho0:(out.length:Int)>0
      · obtain ⟨s,hs1,hs2⟩:=idx_at (l:=l) hq0 hql
        obtain ⟨p,hp⟩:∃ p,out[out.length-1]? = some p:=⟨_,List.getElem?_eq_getElem (by omega)⟩
        obtain ⟨hp0,hpl⟩:=hr p (List.mem_of_getElem? hp)
        obtain ⟨s',hs1',hs2'⟩:=idx_at (l:=l) hp0 hpl
        have hle:=hlast p (List.mem_of_getElem? hp) q (List.mem_of_getElem? hq) hm
        unfold le at hle
        rw [mg_at hs2,mg_at hs2'] at hle
        rw [if_pos ho0,hs1,Option.bind_some,i64w (by omega),show (out.length:Int)-1=((out.length-1:Nat):Int) by omega,idx_nat,hp,Option.bind_some,hs1',Option.bind_some,
          show decide (s.2.2.2.2.2.2.2<(s'.2.2.2.2.2.2.2:Int))=false by simp; omega]
        exact hj4
      · rw [if_neg ho0]
        exact hj4
end
theorem bright_law (hF:10000≤F) (ha:m_law19_alive F=some true) (l:List Star) (x4:List Int) (x5:Int):m_law19_CatalogBright F l x4 x5=some true:=by
  unfold m_law19_CatalogBright
  rw [ha,Option.bind_some]
  by_cases hl:(l.length:Int)>20
  · rw [if_pos hl]; rfl
  rw [if_neg hl]
  obtain ⟨g,hg,hn⟩:∃ g,m_law19_great F l 20=some g∧_:=great_l (F:=F) l (by omega) l.length F 0 (by omega) (by omega)
  rw [hg,Option.bind_some]
  unfold m_law19_CatalogBright_j9
  cases g with
  | true=>rfl
  | false =>
    have hn':∀ x ∈ l,x.1.size≤100:=fun x hx=>by
      obtain ⟨j,hj⟩:=List.getElem?_of_mem hx
      exact hn rfl j x (by omega) hj
    by_cases hk:(x4.length:Int)>20
    · rw [show decide ((x4.length:Int)>20)=true by simp; omega]; rfl
    rw [show decide ((x4.length:Int)>20)=false by simp; omega,if_neg (by decide)]
    rcases b_Bright hF l x4 x5 (by omega) (by omega) hn' with h | h | ⟨h1,h2,h3,h⟩
    · rw [h]; rfl
    · rw [h]; rfl
    · rw [h,Option.bind_some]
      have hlen:(outs l x4 x5).length=(mm x4 x5).toNat:=by
        unfold outs
        rw [List.length_take,(ord_perm l x4).length_eq]
        unfold mm; split <;> omega
      have hnd:(ord l x4).Nodup:=(ord_perm l x4).nodup_iff.2 h2
      have hsub:(outs l x4 x5).Sublist (ord l x4):=List.take_sublist _ _
      have hor:∀ q ∈ outs l x4 x5,0≤q∧q<(l.length:Int):=fun q hq=>h1 q ((ord_perm l x4).mem_iff.1 (hsub.subset hq))
      have hlast:∀ a ∈ outs l x4 x5,∀ q ∈ x4,q ∉ outs l x4 x5→le l a q:=fun a ha q hq hno=>by
        have hs:=ord_sorted l x4
        rw [← List.take_append_drop (mm x4 x5).toNat (ord l x4),List.pairwise_append] at hs
        refine hs.2.2 a ha q ?_
        have hq':=(ord_perm l x4).mem_iff.2 hq
        rw [← List.take_append_drop (mm x4 x5).toNat (ord l x4)] at hq'
        rcases List.mem_append.1 hq' with h | h
        · exact absurd h hno
        · exact h
      have hcnt:x4.countP (fun q=>decide (q ∈ outs l x4 x5))=(outs l x4 x5).length:=by
        rw [← (ord_perm l x4).countP_eq]
        have hs:=hnd
        conv=>lhs; rw [← List.take_append_drop (mm x4 x5).toNat (ord l x4)]
        rw [← List.take_append_drop (mm x4 x5).toNat (ord l x4),List.nodup_append] at hs
        rw [List.countP_append,List.countP_eq_length.2 (fun a ha=>by simp only [decide_eq_true_eq]; exact ha),List.countP_eq_zero.2 (fun a ha=>by
          simp only [decide_eq_true_eq]
          exact fun hm=>hs.2.2 a hm a ha rfl)]
        rfl
      rw [if_neg (fun h=>h rfl),show (outs l x4 x5,(0:Int)).1=outs l x4 x5 from rfl,if_neg (by rw [hlen]; unfold mm; split <;> simp <;> omega),if_pos (by omega)]
      obtain ⟨ins',g1,g2,g3⟩:=l_l6 (F:=F) l x4 (outs l x4 x5) (by omega) (by rw [hlen]; unfold mm; split <;> omega) hor (hnd.sublist hsub) ((ord_sorted l x4).sublist hsub) (outs l x4 x5).length F 0 (List.replicate (Int.toNat (l.length:Int)) false) (by omega) (by rw [hlen]; unfold mm; split <;> omega) (by rw [List.length_replicate]; omega) (fun j hj=>by rw [rep_getD]; simp)
      rw [show ((0:Nat):Int)=0 from rfl] at g3
      rw [g3]
      have hl2:=l_l2 l x4 (outs l x4 x5) hF (by omega) (by omega) h1 (by rw [hlen]; unfold mm; split <;> omega) hor hlast ins' g1 g2 x4.length F 0 (by omega) (by omega)
      rw [show ((x4.take 0).countP (fun q=>decide (q ∈ outs l x4 x5)))=0 from rfl,show ((0:Nat):Int)=0 from rfl] at hl2
      rw [hl2,hcnt]
      simp
end
end Go.Proofs.Ytmgmoedcpndppaa
