/- Part of a proof: laws. -/
import Derived.Test.YtipfobacinmoiaaGreatDetGraph
set_option linter.unusedVariables false
set_option linter.unusedSimpArgs false
/- What the statements on parts ask of the parts of a set, in plain Lean. -/
namespace Det
def okL (n:Nat) (l:List Int):Prop:=∀ j,j<l.length→(0≤l.getD j 0∧l.getD j 0<(n:Int))∧(0<j→l.getD (j-1) 0<l.getD j 0)
def conn (W H:Nat) (l:List Int):Prop:=okL (W*H) l∧0<l.length∧(part W H (marks (W*H) l l.length) (l.getD 0 0).toNat).2.length=l.length
def fillS (of xs:List Int) (v:Int):Nat→List Int
  | 0=>of
  | k+1=>(fillS of xs v k).set (xs.getD k 0).toNat v
theorem fillS_len {of xs:List Int} {v:Int}:∀ k,(fillS of xs v k).length=of.length
  | 0=>rfl
  | k+1=>by simp [fillS,fillS_len k]
def own (n:Nat) (xss:List (List Int)):Nat→List Int
  | 0=>List.replicate n (-1)
  | s+1=>fillS (own n xss s) (xss.getD s []) (s:Int) (xss.getD s []).length
theorem own_len {n:Nat} {xss:List (List Int)}:∀ s,(own n xss s).length=n
  | 0=>by simp [own]
  | s+1=>by simp [own,fillS_len,own_len s]
theorem fillS_get {of xs:List Int} {v:Int} {i:Nat} (hx:∀ t ∈ xs,0≤t∧t<(of.length:Int)) (hi:i<of.length):∀ {k:Nat},k≤xs.length →
    ((i:Int) ∈ xs.take k→(fillS of xs v k).getD i 0=v)∧((i:Int) ∉ xs.take k→(fillS of xs v k).getD i 0=of.getD i 0)
  | 0,_=>by simp [fillS]
  | k+1,hk=>by
    obtain ⟨h1,h2⟩:=fillS_get (v:=v) hx hi (k:=k) (by omega)
    have h0:=hx _ (getD_mem (l:=xs) (j:=k) (by omega))
    have ht:xs.take (k+1)=xs.take k++[xs.getD k 0]:=by
      rw [List.take_add_one,List.getElem?_eq_getElem (show k<xs.length by omega)]
      simp [List.getD_eq_getElem?_getD,List.getElem?_eq_getElem (show k<xs.length by omega)]
    rw [ht]
    rw [List.mem_append,List.mem_singleton]
    have hf:fillS of xs v (k+1)=(fillS of xs v k).set (xs.getD k 0).toNat v:=rfl
    rw [hf]
    clear hf
    have hl:=fillS_len (of:=of) (xs:=xs) (v:=v) k
    by_cases e:i=(xs.getD k 0).toNat
    · have:((fillS of xs v k).set (xs.getD k 0).toNat v).getD i 0=v:=by
        rw [← e]; simp only [List.getD_eq_getElem?_getD,List.getElem?_set]
        simp [hl,hi]
      exact ⟨fun _=>this,fun h=>absurd (show (i:Int) ∈ xs.take k∨(i:Int)=xs.getD k 0 from .inr (by omega)) h⟩
    · have e2:((fillS of xs v k).set (xs.getD k 0).toNat v).getD i 0=(fillS of xs v k).getD i 0:=by
        rw [List.getD_eq_getElem?_getD,List.getElem?_set_ne (fun g=>e g.symm),List.getD_eq_getElem?_getD]
      rw [e2]
      refine ⟨?_,fun h=>h2 (fun g=>h (.inl g))⟩
      rintro (h | h)
      · exact h1 h
      · exfalso; omega
theorem own_none {n:Nat} {xss:List (List Int)} {i:Nat} (hr:∀ x ∈ xss,∀ t ∈ x,0≤t∧t<(n:Int)) (hi:i<n):∀ {s:Nat},s≤xss.length→(∀ q,q<s→(i:Int) ∉ xss.getD q [])→(own n xss s).getD i 0=-1
  | 0,_,_=>by simp [own,List.getD_eq_getElem?_getD,hi]
  | s+1,hs,h=>by
    have hm:xss.getD s [] ∈ xss:=by
      rw [List.getD_eq_getElem?_getD,List.getElem?_eq_getElem (by omega)]; exact List.getElem_mem _
    have:=(fillS_get (of:=own n xss s) (v:=(s:Int)) (i:=i) (by rw [own_len]; exact hr _ hm) (by rw [own_len]; exact hi) (Nat.le_refl _)).2 (by rw [List.take_length]; exact h s (by omega))
    simp only [own]
    rw [this]
    exact own_none hr hi (by omega) (fun q hq=>h q (by omega))
theorem apart_get {xss:List (List Int)} (hp:xss.Pairwise (fun a b=>∀ t ∈ a,t ∉ b)) {p q:Nat} (hpq:p<q) (hq:q<xss.length) {t:Int} (h:t ∈ xss.getD p []):t ∉ xss.getD q []:=by
  have:=List.pairwise_iff_getElem.1 hp p q (by omega) hq hpq
  simp only [List.getD_eq_getElem?_getD,List.getElem?_eq_getElem hq,List.getElem?_eq_getElem (show p<xss.length by omega)] at h ⊢
  exact this t h
theorem own_some {n:Nat} {xss:List (List Int)} {i q:Nat} (hr:∀ x ∈ xss,∀ t ∈ x,0≤t∧t<(n:Int)) (hp:xss.Pairwise (fun a b=>∀ t ∈ a,t ∉ b)) (hi:(i:Int) ∈ xss.getD q []):∀ {s:Nat},s≤xss.length→q<s→(own n xss s).getD i 0=(q:Int)
  | 0,_,h=>absurd h (Nat.not_lt_zero _)
  | s+1,hs,h=>by
    have mem:∀ s,s<xss.length→xss.getD s [] ∈ xss:=fun s hs=>by
      rw [List.getD_eq_getElem?_getD,List.getElem?_eq_getElem hs]; exact List.getElem_mem _
    have hin:i<n:=by have:=hr _ (mem q (by omega)) _ hi; omega
    have hf:=fillS_get (of:=own n xss s) (v:=(s:Int)) (i:=i) (by rw [own_len]; exact hr _ (mem s (by omega))) (by rw [own_len]; exact hin) (Nat.le_refl _)
    rw [List.take_length] at hf
    simp only [own]
    rcases Nat.lt_or_ge q s with h1 | h1
    · rw [hf.2 (apart_get hp h1 (by omega) hi)]
      exact own_some hr hp hi (by omega) h1
    · obtain rfl:q=s:=by omega
      exact hf.1 hi
theorem own_free {n:Nat} {xss:List (List Int)} (hr:∀ x ∈ xss,∀ t ∈ x,0≤t∧t<(n:Int)) (hp:xss.Pairwise (fun a b=>∀ t ∈ a,t ∉ b)) {s k:Nat} (hs:s<xss.length) (hk:k<(xss.getD s []).length) (ho:okL n (xss.getD s [])) :
    (fillS (own n xss s) (xss.getD s []) (s:Int) k).getD ((xss.getD s []).getD k 0).toNat 0=-1:=by
  have mem:∀ s,s<xss.length→xss.getD s [] ∈ xss:=fun s hs=>by
    rw [List.getD_eq_getElem?_getD,List.getElem?_eq_getElem hs]; exact List.getElem_mem _
  have hx:=hr _ (mem s hs) _ (getD_mem hk)
  have hlt:((xss.getD s []).getD k 0).toNat<n:=by omega
  have hmem:((((xss.getD s []).getD k 0).toNat:Nat):Int) ∈ xss.getD s []:=by
    rw [Int.toNat_of_nonneg hx.1]; exact getD_mem hk
  have hf:=(fillS_get (of:=own n xss s) (v:=(s:Int)) (i:=((xss.getD s []).getD k 0).toNat) (by rw [own_len]; exact hr _ (mem s hs)) (by rw [own_len]; exact hlt) (Nat.le_of_lt hk)).2 (by
    intro h
    obtain ⟨j,hj,he⟩:=List.mem_iff_getElem.1 h
    rw [List.length_take] at hj
    rw [List.getElem_take] at he
    have e:(xss.getD s []).getD j 0=(xss.getD s []).getD k 0:=by
      rw [List.getD_eq_getElem?_getD,List.getElem?_eq_getElem (by omega)]
      simp only [Option.getD_some,he]
      omega
    have inc:∀ m,j+m<(xss.getD s []).length→0<m→(xss.getD s []).getD j 0<(xss.getD s []).getD (j+m) 0:=by
      intro m
      induction m with
      | zero=>intro _ h; omega
      | succ m ih =>
        intro h1 _
        have h2:=(ho (j+(m+1)) h1).2 (by omega)
        rcases Nat.eq_zero_or_pos m with h3 | h3
        · subst h3; exact h2
        · have:=ih (by omega) h3
          have e:j+(m+1)-1=j+m:=by omega
          rw [e] at h2
          omega
    have:=inc (k-j) (by omega) (by omega)
    rw [show j+(k-j)=k from by omega] at this
    omega)
  rw [hf]
  exact own_none hr hlt (Nat.le_of_lt hs) (fun q hq h=>apart_get hp hq hs h hmem)
theorem okL_of {n:Nat} {l:List Int} (h:l.Pairwise (·<·)) (hr:∀ t ∈ l,0≤t∧t<(n:Int)):okL n l:=by
  intro j hj
  refine ⟨hr _ (getD_mem hj),fun h0=>?_⟩
  have:=List.pairwise_iff_getElem.1 h (j-1) j (by omega) hj (by omega)
  simpa [List.getD_eq_getElem?_getD,List.getElem?_eq_getElem hj,List.getElem?_eq_getElem (show j-1<l.length by omega)] using this
theorem marks_all {n:Nat} {l:List Int} (hl:∀ t ∈ l,0≤t∧t<(n:Int)) (i:Nat):(marks n l l.length).getD i false=true↔(i:Int) ∈ l:=by
  rw [marks_get hl _ (Nat.le_refl _),List.take_length]
theorem part_conn {W H f:Nat} {bs:List Bool} (hn:bs.length=W*H) (hf:bs.getD f false=true):conn W H (part W H bs f).2:=by
  have hr:∀ t ∈ (part W H bs f).2,0≤t∧t<((W*H:Nat):Int):=fun t ht=>part_rng ht
  have hm:=marks_all hr
  have hi:=part_iff hn hf
  have hne:0<(part W H bs f).2.length:=List.length_pos_of_mem ((hi f).2 (.refl hf))
  refine ⟨okL_of part_asc hr,hne,?_⟩
  have h0:=getD_mem hne
  have h00:=hr _ h0
  obtain ⟨g,hg⟩:=Int.eq_ofNat_of_zero_le h00.1
  rw [hg] at h0
  rw [hg,Int.toNat_natCast]
  have hgr:=(hi g).1 h0
  have hmg:=(hm g).2 h0
  rw [part_eq (cs:=bs) (b:=f) (by rw [marks_len]) hn hmg hf]
  intro i
  constructor
  · intro h
    exact (hi i).1 ((hm i).1 h.right)
  · intro h
    refine ((hgr.symm hn).trans h).within hmg ?_
    intro a b h1 h2 h3
    exact (hm b).2 ((hi b).2 (((hi a).1 ((hm a).1 h1)).step h2 h3))
section
variable {W H:Nat} {least:Int} {bs:List Bool} {ss:List (List Int)}
theorem sets_mem (hn:bs.length=W*H) (he:ss=(partsF W H least bs (W*H)).2) {x:List Int}:x ∈ ss↔∃ f,IsMin W H bs f∧x=(part W H bs f).2∧least≤(x.length:Int):=by
  subst he
  rw [(partsF_ok hn (W*H)).mem]
  constructor
  · rintro ⟨f,_,h⟩; exact ⟨f,h⟩
  · rintro ⟨f,h⟩; exact ⟨f,(Rch.refl h.1.1:Rch W H bs f f).lt hn,h⟩
theorem sets_good (hn:bs.length=W*H) (he:ss=(partsF W H least bs (W*H)).2):∀ x ∈ ss,conn W H x∧least≤(x.length:Int):=by
  intro x hx
  obtain ⟨f,h1,rfl,h3⟩:=(sets_mem hn he).1 hx
  exact ⟨part_conn hn h1.1,h3⟩
theorem sets_rng (hn:bs.length=W*H) (he:ss=(partsF W H least bs (W*H)).2):∀ x ∈ ss,∀ t ∈ x,0≤t∧t<((W*H:Nat):Int):=by
  intro x hx t ht
  obtain ⟨f,h1,rfl,h3⟩:=(sets_mem hn he).1 hx
  exact part_rng ht
theorem sets_apart (hn:bs.length=W*H) (he:ss=(partsF W H least bs (W*H)).2):ss.Pairwise (fun a b=>∀ t ∈ a,t ∉ b):=by
  subst he; exact (partsF_ok hn (W*H)).apart
theorem has_min (hn:bs.length=W*H) {i:Nat} (hi:bs.getD i false=true):∃ f,IsMin W H bs f∧Rch W H bs f i:=by
  have h:=partsF_ok (W:=W) (H:=H) (least:=0) hn (W*H)
  have hlt:i<W*H:=(Rch.refl hi:Rch W H bs i i).lt hn
  obtain ⟨f,_,h1,h2⟩:=h.out i hi (h.gone i hlt)
  exact ⟨f,h1,h2⟩
theorem min_one (hn:bs.length=W*H) {f g i:Nat} (h1:IsMin W H bs f) (h2:Rch W H bs f i) (h3:IsMin W H bs g) (h4:Rch W H bs g i):f=g:=by
  have a:=h1.2 g (h2.trans (h4.symm hn))
  have b:=h3.2 f (h4.trans (h2.symm hn))
  omega
theorem mem_at {x:List Int} (hx:x ∈ ss):∃ q,q<ss.length∧ss.getD q []=x:=by
  obtain ⟨q,hq,he⟩:=List.mem_iff_getElem.1 hx
  exact ⟨q,hq,by simp [List.getD_eq_getElem?_getD,List.getElem?_eq_getElem hq,he]⟩
theorem at_mem {q:Nat} (hq:q<ss.length):ss.getD q [] ∈ ss:=by
  rw [List.getD_eq_getElem?_getD,List.getElem?_eq_getElem hq]; exact List.getElem_mem _
theorem own_cases (hn:bs.length=W*H) (he:ss=(partsF W H least bs (W*H)).2) {i:Nat} (hi:i<W*H) :
    (∃ f q:Nat,q<ss.length∧IsMin W H bs f∧Rch W H bs f i∧ss.getD q []=(part W H bs f).2∧(own (W*H) ss ss.length).getD i 0=(q:Int)∧least≤((part W H bs f).2.length:Int)) ∨
    ((own (W*H) ss ss.length).getD i 0=-1∧∀ f,IsMin W H bs f→Rch W H bs f i→¬ least≤((part W H bs f).2.length:Int)):=by
  by_cases h:∃ q,q<ss.length∧(i:Int) ∈ ss.getD q []
  · obtain ⟨q,hq,hm⟩:=h
    obtain ⟨f,h1,h2,h3⟩:=(sets_mem hn he).1 (at_mem hq)
    refine .inl ⟨f,q,hq,h1,?_,h2,own_some (sets_rng hn he) (sets_apart hn he) hm (Nat.le_refl _) hq,by rw [← h2]; exact h3⟩
    rw [h2] at hm
    exact (part_iff hn h1.1 i).1 hm
  · refine .inr ⟨own_none (sets_rng hn he) hi (Nat.le_refl _) (fun q hq hm=>h ⟨q,hq,hm⟩),fun f h1 h2 h3=>h ?_⟩
    obtain ⟨q,hq,e⟩:=mem_at ((sets_mem hn he).2 ⟨f,h1,rfl,h3⟩)
    exact ⟨q,hq,by rw [e]; exact (part_iff hn h1.1 i).2 h2⟩
theorem own_dark (hn:bs.length=W*H) (he:ss=(partsF W H least bs (W*H)).2) {i:Nat} (hi:i<W*H) (hd:¬ bs.getD i false=true):(own (W*H) ss ss.length).getD i 0<0:=by
  rcases own_cases hn he hi with ⟨f,q,_,_,h,_⟩ | ⟨h,_⟩
  · exact absurd h.right hd
  · omega
theorem own_reach (hn:bs.length=W*H) (he:ss=(partsF W H least bs (W*H)).2) {i j:Nat} (h:Rch W H bs i j):(own (W*H) ss ss.length).getD j 0=(own (W*H) ss ss.length).getD i 0:=by
  have hi:i<W*H:=(Rch.refl h.left:Rch W H bs i i).lt hn
  have hj:=h.lt hn
  rcases own_cases hn he hi with ⟨f,q,hq,h1,h2,h3,h4,_⟩ | ⟨h1,h2⟩
  · rw [h4]
    refine own_some (sets_rng hn he) (sets_apart hn he) ?_ (Nat.le_refl _) hq
    rw [h3]
    exact (part_iff hn h1.1 j).2 (h2.trans h)
  · rcases own_cases hn he hj with ⟨f,q,hq,g1,g2,g3,g4,g5⟩ | ⟨g1,_⟩
    · exact absurd g5 (h2 f g1 (g2.trans (h.symm hn)))
    · omega
theorem own_near (hn:bs.length=W*H) (he:ss=(partsF W H least bs (W*H)).2) {i j:Nat} (hi:bs.getD i false=true) (hj:bs.getD j false=true) (h:(j:Int) ∈ nb W H i) :
    (own (W*H) ss ss.length).getD j 0=(own (W*H) ss ss.length).getD i 0:=own_reach hn he ((Rch.refl hi).step h hj)
theorem own_small {ts:List (List Int)} {one:Int} (hn:bs.length=W*H) (he:ss=(partsF W H least bs (W*H)).2) (ht:ts=(partsF W H one bs (W*H)).2) {x:List Int} (hx:x ∈ ts) :
    ((x.length:Int)<least↔(own (W*H) ss ss.length).getD (x.getD 0 0).toNat 0<0):=by
  obtain ⟨f,h1,rfl,_⟩:=(sets_mem hn ht).1 hx
  have hne:0<(part W H bs f).2.length:=List.length_pos_of_mem ((part_iff hn h1.1 f).2 (.refl h1.1))
  have h0:=getD_mem hne
  obtain ⟨g,hg⟩:=Int.eq_ofNat_of_zero_le (part_rng h0).1
  rw [hg] at h0
  rw [hg,Int.toNat_natCast]
  have hr:=(part_iff hn h1.1 g).1 h0
  rcases own_cases hn he (hr.lt hn) with ⟨e,q,hq,g1,g2,g3,g4,g5⟩ | ⟨g1,g2⟩
  · obtain rfl:=min_one hn h1 hr g1 g2
    rw [g4]; omega
  · have:=g2 f h1 hr
    rw [g1]; omega
end
theorem sub_len:∀ {a b:List Int},a.Nodup→(∀ t ∈ a,t ∈ b)→a.length≤b.length
  | [],_,_,_=>Nat.zero_le _
  | x::a,b,ha,h=>by
    have hx:=h x List.mem_cons_self
    rw [List.nodup_cons] at ha
    have:=sub_len (a:=a) (b:=b.erase x) ha.2 (fun t ht=>(List.mem_erase_of_ne (fun e=>by subst e; exact ha.1 ht)).2 (h t (List.mem_cons_of_mem _ ht)))
    rw [List.length_erase_of_mem hx] at this
    have:=List.length_pos_of_mem hx
    simp only [List.length_cons]
    omega
theorem own_more {W H:Nat} {least:Int} {bs cs:List Bool} {ss ts:List (List Int)} (hn:bs.length=W*H) (hm:cs.length=W*H) (hs:Sub cs bs) (he:ss=(partsF W H least bs (W*H)).2) (ht:ts=(partsF W H least cs (W*H)).2)
    {x:List Int} (hx:x ∈ ts) {k:Nat} (hk:k<x.length):0≤(own (W*H) ss ss.length).getD (x.getD k 0).toNat 0∧(own (W*H) ss ss.length).getD (x.getD k 0).toNat 0=(own (W*H) ss ss.length).getD (x.getD 0 0).toNat 0:=by
  obtain ⟨f,h1,rfl,h3⟩:=(sets_mem hm ht).1 hx
  have hf:=hs f h1.1
  have key:∀ j,j<(part W H cs f).2.length→(own (W*H) ss ss.length).getD ((part W H cs f).2.getD j 0).toNat 0=(own (W*H) ss ss.length).getD f 0:=by
    intro j hj
    have h0:=getD_mem hj
    obtain ⟨g,hg⟩:=Int.eq_ofNat_of_zero_le (part_rng h0).1
    rw [hg] at h0
    rw [hg,Int.toNat_natCast]
    exact own_reach hn he (((part_iff hm h1.1 g).1 h0).mono hs)
  rw [key k hk,key 0 (by omega)]
  refine ⟨?_,rfl⟩
  have hlt:f<W*H:=(Rch.refl hf:Rch W H bs f f).lt hn
  rcases own_cases hn he hlt with ⟨e,q,hq,g1,g2,g3,g4,g5⟩ | ⟨g1,g2⟩
  · rw [g4]; omega
  · obtain ⟨e,e1,e2⟩:=has_min hn hf
    exfalso
    refine g2 e e1 e2 ?_
    have:(part W H cs f).2.length≤(part W H bs e).2.length:=by
      apply sub_len ((part_asc (W:=W) (H:=H) (ins:=cs) (first:=f)).imp (fun h=>Int.ne_of_lt h))
      intro t ht
      obtain ⟨i,rfl⟩:=Int.eq_ofNat_of_zero_le (part_rng ht).1
      exact (part_iff hn e1.1 i).2 (e2.trans (((part_iff hm h1.1 i).1 ht).mono hs))
    omega
theorem fill_step {k n:Nat} (h:k<n):(List.replicate k (-1:Int)++List.replicate (n-k) 0).set k (-1)=List.replicate (k+1) (-1)++List.replicate (n-(k+1)) 0:=by
  rw [List.set_append_right _ _ (by simp),List.length_replicate,Nat.sub_self,show n-k=(n-(k+1))+1 from by omega,List.replicate_succ,List.set_cons_zero,List.replicate_succ',List.append_assoc]
  rfl
theorem bright_get {zs:List Int} {bs:List Bool} {thr:Int} {i:Nat}:∀ {n:Nat},i<n→((bright zs bs thr n).getD i false=true↔bs.getD i false=false∧thr≤zs.getD i 0)
  | 0,h=>absurd h (Nat.not_lt_zero _)
  | n+1,h=>by
    simp only [bright]
    rcases Nat.lt_or_ge i n with h1 | h1
    · rw [← bright_get h1]
      simp only [List.getD_eq_getElem?_getD]
      rw [List.getElem?_append_left (by rw [bright_len]; exact h1)]
    · obtain rfl:i=n:=by omega
      simp only [List.getD_eq_getElem?_getD]
      rw [List.getElem?_append_right (by rw [bright_len]; exact Nat.le_refl _)]
      simp [bright_len]
theorem bright_b {zs:List Int} {bs:List Bool} {thr:Int} {i n:Nat} (h:i<n):(!(bs.getD i false)&&decide (zs.getD i 0≥thr))=(bright zs bs thr n).getD i false:=by
  have:=bright_get (zs:=zs) (bs:=bs) (thr:=thr) h
  cases hb:(bright zs bs thr n).getD i false with
  | true=>have:=this.1 hb; simp only [this.1,Bool.not_false,Bool.true_and,decide_eq_true_eq]; exact this.2
  | false =>
    cases hc:(!(bs.getD i false)&&decide (zs.getD i 0≥thr)) with
    | false=>rfl
    | true =>
      simp only [Bool.and_eq_true,Bool.not_eq_true',decide_eq_true_eq] at hc
      rw [this.2 ⟨hc.1,hc.2⟩] at hb; cases hb
def sets (W H:Nat) (zs:List Int) (bs:List Bool) (thr least:Int):List (List Int):=(partsF W H least (bright zs bs thr (W*H)) (W*H)).2
theorem sets_of {W H:Nat} {zs:List Int} {bs:List Bool} {thr least:Int} (h:partsE W H zs bs thr least=0) (hz:zs.length=W*H):partsR W H zs bs thr least=sets W H zs bs thr least:=by
  unfold partsR sets
  rw [if_pos h,hz,Int.toNat_natCast,Int.toNat_natCast]
theorem start_ok {W H:Int} {zs:List Int} {bs:List Bool} [Decidable (fieldOK W H zs)] (h:((decide ((zs.length:Int)>100)||decide ((bs.length:Int)>120))||decide ((if fieldOK W H zs then (if bs.length=zs.length then 0 else 2) else 8)≠(0:Int)))=false) :
    fieldOK W H zs∧bs.length=zs.length∧zs.length≤100:=by
  simp only [Bool.or_eq_false_iff,decide_eq_false_iff_not] at h
  obtain ⟨⟨e1,e2⟩,e3⟩:=h
  split at e3
  · rename_i h1
    split at e3
    · rename_i h2
      exact ⟨h1,h2,by omega⟩
    · exact absurd e3 (by decide)
  · exact absurd e3 (by decide)
theorem early_ok {W H:Int} {zs:List Int} {bs:List Bool} [Decidable (fieldOK W H zs)] (h:¬ (fieldOK W H zs∧bs.length=zs.length∧zs.length≤100)) :
    ((decide ((zs.length:Int)>100)||decide ((bs.length:Int)>120))||decide ((if fieldOK W H zs then (if bs.length=zs.length then 0 else 2) else 8)≠(0:Int)))=true:=by
  cases hc:((decide ((zs.length:Int)>100)||decide ((bs.length:Int)>120))||decide ((if fieldOK W H zs then (if bs.length=zs.length then 0 else 2) else 8)≠(0:Int))) with
  | true=>rfl
  | false=>exact absurd (start_ok hc) h
theorem more_early {W H thr more:Int} {zs:List Int} {bs:List Bool} [Decidable (fieldOK W H zs)] (h:¬ (fieldOK W H zs∧bs.length=zs.length∧zs.length≤100∧0≤more∧more≤8589934592∧-8589934592≤thr∧thr≤8589934592)) :
    ((((((decide ((zs.length:Int)>100)||decide ((bs.length:Int)>120))||decide ((if fieldOK W H zs then (if bs.length=zs.length then 0 else 2) else 8)≠(0:Int)))||decide (more<(0:Int)))||decide (more>(8589934592:Int)))||decide (thr<(-8589934592:Int)))||decide (thr>(8589934592:Int)))=true:=by
  by_cases h1:fieldOK W H zs∧bs.length=zs.length∧zs.length≤100
  · obtain ⟨a,b,c⟩:=h1
    simp only [Bool.or_eq_true,decide_eq_true_eq]
    have:¬ (0≤more∧more≤8589934592∧-8589934592≤thr∧thr≤8589934592):=fun g=>h ⟨a,b,c,g⟩
    omega
  · rw [early_ok h1]; rfl
theorem field_nat {W H:Int} {zs:List Int} (h:fieldOK W H zs):∃ w h':Nat,W=(w:Int)∧H=(h':Int)∧zs.length=w*h':=by
  obtain ⟨h1,h2,h3,h4,h5,_⟩:=h
  obtain ⟨w,rfl⟩:=Int.eq_ofNat_of_zero_le (show 0≤W by omega)
  obtain ⟨k,rfl⟩:=Int.eq_ofNat_of_zero_le (show 0≤H by omega)
  exact ⟨w,k,rfl,rfl,by exact_mod_cast h5⟩
theorem partsE_ok {W H thr least:Int} {zs:List Int} {bs:List Bool} (h:partsE W H zs bs thr least=0):-4294967296≤thr∧thr≤4294967296∧1≤least:=by
  unfold partsE at h
  split at h
  · split at h
    · rename_i g; exact ⟨g.2.1,g.2.2.1,g.2.2.2⟩
    · cases h
  · cases h
theorem xor_iff {p q:Prop} [Decidable p] [Decidable q] (h:p↔q):(!(decide p == decide q))=false:=by
  by_cases hq:q
  · rw [decide_eq_true (h.2 hq),decide_eq_true hq]; rfl
  · rw [decide_eq_false (fun hp=>hq (h.1 hp)),decide_eq_false hq]; rfl
theorem bright_sub {zs:List Int} {bs:List Bool} {a b:Int} {n:Nat} (h:a≤b):Sub (bright zs bs b n) (bright zs bs a n):=by
  intro i hi
  have hl:i<n:=by
    rcases Nat.lt_or_ge i n with g | g
    · exact g
    · rw [List.getD_eq_getElem?_getD,List.getElem?_eq_none (by rw [bright_len]; exact g)] at hi; cases hi
  rw [bright_get hl] at hi ⊢
  exact ⟨hi.1,by omega⟩
end Det
