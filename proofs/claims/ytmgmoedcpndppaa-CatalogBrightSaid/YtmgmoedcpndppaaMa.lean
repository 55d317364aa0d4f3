/- Bright and its law, of the models. -/
import Derived.Test.YtmgmoedcpndppaaWac
import Derived.Test.YtmgmoedcpndppaaIntLaws
set_option linter.unusedVariables false
set_option linter.unusedSimpArgs false
namespace Go.Proofs.Ytmgmoedcpndppaa
open Go Go.SL
abbrev Star:=ByteArray × Int × Int × Int × Int × Int × Int × Int
section
variable {F:Nat} (hF:10000≤F)
theorem idx_nat {T:Type} (l:List T) (i:Nat):idx l (i:Int)=l[i]?:=by
  unfold idx
  rw [if_pos (by omega),Int.toNat_natCast]
theorem idx_at {T:Type} {l:List T} {i:Int} (h0:0≤i) (h1:i<(l.length:Int)):∃ x,idx l i=some x∧l[i.toNat]? = some x:=by
  unfold idx
  rw [if_pos h0]
  have:i.toNat<l.length:=by omega
  exact ⟨l[i.toNat],List.getElem?_eq_getElem this,List.getElem?_eq_getElem this⟩
theorem i64w {z:Int} (h:-9223372036854775808≤z∧z≤9223372036854775807):IntKind.i64.wrap z=z:=i64_of h
theorem dec_pos (s:ByteArray) (pos:Nat) (h:pos<s.size):1≤(Utf8.decode s pos).2:=by
  unfold Utf8.decode
  dsimp only
  repeat' split
  all_goals simp
theorem name_l {s:ByteArray}:∀ (k N pos:Nat),s.size≤pos+k→k<N→∃ r,m_catalog_isName_l s N pos=some r
  | k,N+1,pos,hk,hN=>by
    by_cases hp:pos<s.size
    · have h1:=dec_pos s pos hp
      by_cases hc:(!isLet (Utf8.decode s pos).1&&(decide ((pos:Int)=0)||!isDig (Utf8.decode s pos).1))=true
      · refine ⟨false,?_⟩
        show (if pos<s.size then _ else _)=_
        rw [if_pos hp,if_pos hc]
      · obtain ⟨k',rfl⟩:∃ k',k=k'+1:=⟨k-1,by omega⟩
        obtain ⟨r,h2⟩:=name_l (s:=s) k' N (pos+(Utf8.decode s pos).2) (by omega) (by omega)
        refine ⟨r,?_⟩
        show (if pos<s.size then _ else _)=_
        rw [if_pos hp,if_neg hc]
        exact h2
    · refine ⟨decide ((s.size:Int)≥1)&&decide ((s.size:Int)≤24),?_⟩
      show (if pos<s.size then _ else _)=_
      rw [if_neg hp]
include hF in
theorem c_Check {x1:ByteArray} (x2 x3 x4 x5 x6 x7 x8:Int) (h:x1.size≤100):∃ r,m_catalog_Check F x1 x2 x3 x4 x5 x6 x7 x8=some r∧(r=0∨r=8):=by
  obtain ⟨nm,hn⟩:∃ r,m_catalog_isName F x1=some r:=name_l x1.size F 0 (by omega) (by omega)
  unfold m_catalog_Check
  rw [hn,Option.bind_some]
  unfold m_catalog_between
  have h1:∀ b,∃ r,m_catalog_Check_j1 F b=some r∧(r=0∨r=8):=fun b=>by unfold m_catalog_Check_j1; cases b <;> simp
  have hb:∀ a b c,∃ r,m_catalog_between F a b c=some r:=fun a b c=>⟨_,rfl⟩
  have h2:∀ b,∃ r,m_catalog_Check_j2 F x8 b=some r∧(r=0∨r=8):=fun b=>by
    unfold m_catalog_Check_j2; split
    · obtain ⟨c,hc⟩:=hb (-500) x8 3000; rw [hc]; exact h1 _
    · exact h1 _
  have h3:∀ b,∃ r,m_catalog_Check_j3 F x7 x8 b=some r∧(r=0∨r=8):=fun b=>by
    unfold m_catalog_Check_j3; split
    · obtain ⟨c,hc⟩:=hb 0 x7 1000000; rw [hc]; exact h2 _
    · exact h2 _
  have h4:∀ b,∃ r,m_catalog_Check_j4 F x6 x7 x8 b=some r∧(r=0∨r=8):=fun b=>by
    unfold m_catalog_Check_j4; split
    · obtain ⟨c,hc⟩:=hb (-20000000) x6 20000000; rw [hc]; exact h3 _
    · exact h3 _
  have h5:∀ b,∃ r,m_catalog_Check_j5 F x5 x6 x7 x8 b=some r∧(r=0∨r=8):=fun b=>by
    unfold m_catalog_Check_j5; split
    · obtain ⟨c,hc⟩:=hb (-20000000) x5 20000000; rw [hc]; exact h4 _
    · exact h4 _
  have h6:∀ b,∃ r,m_catalog_Check_j6 F x4 x5 x6 x7 x8 b=some r∧(r=0∨r=8):=fun b=>by
    unfold m_catalog_Check_j6; split
    · obtain ⟨c,hc⟩:=hb (-324000000000) x4 324000000000; rw [hc]; exact h5 _
    · exact h5 _
  have h7:∀ b,∃ r,m_catalog_Check_j7 F x3 x4 x5 x6 x7 x8 b=some r∧(r=0∨r=8):=fun b=>by
    unfold m_catalog_Check_j7; split
    · obtain ⟨c,hc⟩:=hb 0 x3 1295999999999; rw [hc]; exact h6 _
    · exact h6 _
  split
  · obtain ⟨c,hc⟩:=hb (-5000000000000000) x2 5000000000000000
    unfold m_catalog_between at hc
    rw [hc]; exact h7 _
  · exact h7 _
include hF in
theorem checkAll_l (l:List Star) (hn:∀ x ∈ l,x.1.size≤100) (hl:l.length≤20):∀ (k N i:Nat),i+k=l.length→k<N→∃ r,m_catalog_checkAll_l2 F l N (i:Int)=some r∧(r=0∨r=8)
  | 0,N+1,i,hk,_=>by
    refine ⟨0,?_,.inl rfl⟩
    show m_catalog_checkAll_b2 F l _ (i:Int)=_
    unfold m_catalog_checkAll_b2 m_catalog_checkAll_j1
    rw [if_neg (by omega)]
  | k+1,N+1,i,hk,hN=>by
    show ∃ r,m_catalog_checkAll_b2 F l _ (i:Int)=some r∧_
    unfold m_catalog_checkAll_b2
    have hi:i<l.length:=by omega
    rw [if_pos (by omega),idx_nat,List.getElem?_eq_getElem hi,Option.bind_some]
    obtain ⟨r,hr,h8⟩:=c_Check hF (x1:=l[i].1) l[i].2.1 l[i].2.2.1 l[i].2.2.2.1 l[i].2.2.2.2.1 l[i].2.2.2.2.2.1 l[i].2.2.2.2.2.2.1 l[i].2.2.2.2.2.2.2 (hn _ (List.getElem_mem hi))
    rw [hr,Option.bind_some]
    by_cases h0:r=0
    · rw [if_neg (by simpa using h0),i64w (by omega)]
      exact checkAll_l l hn hl k N (i+1) (by omega) (by omega)
    · rw [if_pos h0]
      exact ⟨r,rfl,h8⟩
include hF in
theorem c_checkAll (l:List Star) (hn:∀ x ∈ l,x.1.size≤100) (hl:l.length≤20):∃ r,m_catalog_checkAll F l=some r∧(r=0∨r=8):=by
  unfold m_catalog_checkAll
  rw [if_neg (by omega)]
  exact checkAll_l hF l hn hl l.length F 0 (by omega) (by omega)
theorem great_l (l:List Star) (hl:l.length≤20):∀ (k N i:Nat),i+k=l.length→k<N→∃ g,m_law19_great_l2 F l 20 N (i:Int)=some g∧(g=false→∀ j x,i≤j→l[j]? = some x→x.1.size≤100)
  | 0,N+1,i,hk,_=>by
    refine ⟨false,?_,fun _ j x hj hx=>?_⟩
    · show m_law19_great_b2 F l 20 _ (i:Int)=_
      unfold m_law19_great_b2 m_law19_great_j1
      rw [if_neg (by omega)]
      rw [show decide ((l.length:Int)>20)=false by simp; omega,show decide ((l.length:Int)>510)=false by simp; omega]
      rfl
    · have:=(List.getElem?_eq_some_iff.1 hx).1; omega
  | k+1,N+1,i,hk,hN=>by
    show ∃ g,m_law19_great_b2 F l 20 _ (i:Int)=some g∧_
    unfold m_law19_great_b2
    have hi:i<l.length:=by omega
    rw [if_pos (by omega),idx_nat,List.getElem?_eq_getElem hi,Option.bind_some]
    by_cases hg:(l[i].1.size:Int)>100
    · rw [if_pos hg]
      exact ⟨true,rfl,fun h=>by cases h⟩
    · rw [if_neg hg,i64w (by omega)]
      obtain ⟨g,h1,h2⟩:=great_l l hl k N (i+1) (by omega) (by omega)
      refine ⟨g,h1,fun h j x hj hx=>?_⟩
      by_cases hij:i=j
      · subst hij
        rw [List.getElem?_eq_getElem hi] at hx
        rw [← Option.some.inj hx]; omega
      · exact h2 h j x (by omega) hx
def mg (l:List Star) (k:Int):Int:=((l[k.toNat]?).map fun x=>x.2.2.2.2.2.2.2).getD 0
def PP (l:List Star) (k:Int):Int × Int:=(k,mg l k)
def ord (l:List Star) (at_:List Int):List Int:=(srtF (ltOf cmpR) (at_.map (PP l))).map (·.1)
theorem ord_perm (l:List Star) (at_:List Int):(ord l at_).Perm at_:=by
  have h:(srtF (ltOf cmpR) (at_.map (PP l))).Perm (at_.map (PP l)):=List.mergeSort_perm _ _
  have h2:=h.map (·.1)
  rw [List.map_map] at h2
  have e:at_.map ((·.1) ∘ PP l)=at_:=by
    rw [show ((·.1) ∘ PP l)=id from rfl,List.map_id]
  rw [e] at h2
  exact h2
theorem srt_PP (l:List Star) (at_:List Int):srtF (ltOf cmpR) (at_.map (PP l))=(ord l at_).map (PP l):=by
  have h:(srtF (ltOf cmpR) (at_.map (PP l))).Perm (at_.map (PP l)):=List.mergeSort_perm _ _
  unfold ord
  rw [List.map_map]
  refine ((List.map_congr_left fun x hx=>?_).trans (List.map_id _)).symm
  have hx':=h.mem_iff.1 hx
  obtain ⟨k,_,rfl⟩:=List.mem_map.1 hx'
  rfl
def le (l:List Star) (a b:Int):Prop:=mg l a<mg l b∨mg l a=mg l b∧a≤b
theorem ord_sorted (l:List Star) (at_:List Int):(ord l at_).Pairwise (le l):=by
  have h:(srtF (ltOf cmpR) (at_.map (PP l))).Pairwise (fun x y=>(!ltOf cmpR y x)=true):=List.pairwise_mergeSort (le:=fun x y=>!ltOf cmpR y x) (fun a b c h1 h2=>by
    rw [ltR] at *; simp at *; omega) (fun a b=>by rw [ltR,ltR]; simp; omega) _
  rw [srt_PP,List.pairwise_map] at h
  refine h.imp fun {a b} hab=>?_
  rw [ltR] at hab
  unfold PP at hab
  simp at hab
  unfold le
  omega
end
end Go.Proofs.Ytmgmoedcpndppaa
