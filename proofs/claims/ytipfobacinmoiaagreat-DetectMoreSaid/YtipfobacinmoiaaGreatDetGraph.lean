/- Part of a proof: laws. -/
import Derived.Test.YtipfobacinmoiaaGreatDetMath
set_option linter.unusedVariables false
set_option linter.unusedSimpArgs false
/- The parts of a set of pixels as the sets that neighbours join, in plain Lean. -/
namespace Det
theorem nbIn_iff {W H x y:Nat} {v t:Int}:∀ {l:Nat},t ∈ nbIn W H x y v l↔∃ k:Nat,k<l∧okNb W H x y ((x:Int)-1+(k:Int)) v=true∧t=v*(W:Int)+((x:Int)-1+(k:Int))
  | 0=>by simp [nbIn]
  | l+1=>by
    simp only [nbIn,List.mem_append]
    rw [nbIn_iff (l:=l)]
    constructor
    · rintro (⟨k,h1,h2,h3⟩ | h)
      · exact ⟨k,by omega,h2,h3⟩
      · split at h
        · rename_i hc
          simp only [List.mem_singleton] at h
          exact ⟨l,by omega,hc,h⟩
        · simp at h
    · rintro ⟨k,h1,h2,h3⟩
      rcases Nat.lt_or_ge k l with hk | hk
      · exact .inl ⟨k,hk,h2,h3⟩
      · obtain rfl:k=l:=by omega
        exact .inr (by rw [if_pos h2]; simp [h3])
theorem nbOut_iff {W H x y:Nat} {t:Int}:∀ {k:Nat},t ∈ nbOut W H x y k↔∃ j l:Nat,j<k∧l<3∧okNb W H x y ((x:Int)-1+(l:Int)) ((y:Int)-1+(j:Int))=true∧t=((y:Int)-1+(j:Int))*(W:Int)+((x:Int)-1+(l:Int))
  | 0=>by simp [nbOut]
  | k+1=>by
    simp only [nbOut,List.mem_append]
    rw [nbOut_iff (k:=k),nbIn_iff]
    constructor
    · rintro (⟨j,l,h1,h2,h3,h4⟩ | ⟨l,h1,h2,h3⟩)
      · exact ⟨j,l,by omega,h2,h3,h4⟩
      · exact ⟨k,l,by omega,h1,h2,h3⟩
    · rintro ⟨j,l,h1,h2,h3,h4⟩
      rcases Nat.lt_or_ge j k with hk | hk
      · exact .inl ⟨j,l,hk,h2,h3,h4⟩
      · obtain rfl:j=k:=by omega
        exact .inr ⟨l,h2,h3,h4⟩
def near1 (a b:Nat):Prop:=a≤b+1∧b≤a+1
theorem nb_iff {W H i j:Nat} (hj:j<W*H):(j:Int) ∈ nb W H i↔¬ (j % W=i % W∧j/W=i/W)∧near1 (i % W) (j % W)∧near1 (i/W) (j/W):=by
  have hW:0<W:=Nat.pos_of_ne_zero (fun h=>by subst h; simp at hj)
  unfold nb
  rw [nbOut_iff]
  generalize i % W=x
  generalize i/W=y
  have ha:=Nat.mod_lt j hW
  have hb:j/W<H:=Nat.div_lt_of_lt_mul hj
  have hjj:j=j/W*W+j % W:=(Nat.div_add_mod' j W).symm
  constructor
  · rintro ⟨q,l,h1,h2,h3,h4⟩
    simp only [okNb,Bool.not_eq_true',Bool.or_eq_false_iff,Bool.and_eq_false_iff,decide_eq_false_iff_not] at h3
    obtain ⟨⟨⟨⟨g1,g2⟩,g3⟩,g4⟩,g5⟩:=h3
    obtain ⟨u,hu⟩:=Int.eq_ofNat_of_zero_le (show 0≤(x:Int)-1+(l:Int) by omega)
    obtain ⟨v,hv⟩:=Int.eq_ofNat_of_zero_le (show 0≤(y:Int)-1+(q:Int) by omega)
    rw [hu,hv] at h4
    have hu2:u<W:=by omega
    have h5:j=v*W+u:=by
      have:((j:Nat):Int)=((v*W+u:Nat):Int):=by rw [h4]; simp
      exact_mod_cast this
    have h6:j % W=u:=by rw [h5,Nat.mul_add_mod_self_right]; exact Nat.mod_eq_of_lt hu2
    have h7:j/W=v:=by rw [h5,Nat.mul_comm,Nat.mul_add_div hW,Nat.div_eq_of_lt hu2]; rfl
    unfold near1
    omega
  · unfold near1
    rintro ⟨h1,h2,h3⟩
    generalize j/W=b at *
    generalize j % W=a at *
    have e1:(x:Int)-1+((a+1-x:Nat):Int)=(a:Int):=by omega
    have e2:(y:Int)-1+((b+1-y:Nat):Int)=(b:Int):=by omega
    refine ⟨b+1-y,a+1-x,by omega,by omega,?_,?_⟩
    · rw [e1,e2]
      simp only [okNb,Bool.not_eq_true',Bool.or_eq_false_iff,Bool.and_eq_false_iff,decide_eq_false_iff_not]
      omega
    · rw [e1,e2,hjj]
      simp
theorem nb_symm {W H i j:Nat} (hi:i<W*H) (hj:j<W*H) (h:(j:Int) ∈ nb W H i):(i:Int) ∈ nb W H j:=by
  rw [nb_iff hj] at h
  rw [nb_iff hi]
  unfold near1 at *
  omega
theorem nb_lt {W H i j:Nat} (h:(j:Int) ∈ nb W H i):j<W*H:=by
  have:=nb_mem h
  omega
inductive Rch (W H:Nat) (bs:List Bool) (a:Nat):Nat→Prop
  | refl:bs.getD a false=true→Rch W H bs a a
  | step {i j:Nat}:Rch W H bs a i→(j:Int) ∈ nb W H i→bs.getD j false=true→Rch W H bs a j
namespace Rch
variable {W H:Nat} {bs cs:List Bool} {a b c:Nat}
theorem left (h:Rch W H bs a b):bs.getD a false=true:=by
  induction h with
  | refl h=>exact h
  | step _ _ _ ih=>exact ih
theorem right (h:Rch W H bs a b):bs.getD b false=true:=by
  cases h with
  | refl h=>exact h
  | step _ _ h=>exact h
theorem trans (h:Rch W H bs a b) (h':Rch W H bs b c):Rch W H bs a c:=by
  induction h' with
  | refl _=>exact h
  | step _ h1 h2 ih=>exact .step ih h1 h2
theorem lt (hn:bs.length=W*H) (h:Rch W H bs a b):b<W*H:=by
  have:=h.right
  rcases Nat.lt_or_ge b bs.length with g | g
  · omega
  · rw [List.getD_eq_getElem?_getD,List.getElem?_eq_none g] at this; cases this
theorem symm (hn:bs.length=W*H) (h:Rch W H bs a b):Rch W H bs b a:=by
  induction h with
  | refl h=>exact .refl h
  | step h h1 h2 ih =>
    have hi:_<W*H:=h.lt hn
    have hj:=nb_lt h1
    exact ((Rch.refl h2:Rch W H bs _ _).step (nb_symm hi hj h1) h.right).trans ih
theorem mono (h:Rch W H bs a b) (hs:∀ i,bs.getD i false=true→cs.getD i false=true):Rch W H cs a b:=by
  induction h with
  | refl h=>exact .refl (hs _ h)
  | step _ h1 h2 ih=>exact .step ih h1 (hs _ h2)
theorem within (h:Rch W H bs a b) (ha:cs.getD a false=true) (hs:∀ i j:Nat,cs.getD i false=true→(j:Int) ∈ nb W H i→bs.getD j false=true→cs.getD j false=true):Rch W H cs a b:=by
  induction h with
  | refl h=>exact .refl ha
  | step _ h1 h2 ih=>exact .step ih h1 (hs _ _ ih.right h1 h2)
end Rch
theorem visitN_app {l:List Int}:∀ {j:Nat} {s:List Bool × List Int},∃ m,(visitN s l j).2=s.2++m
  | 0,s=>⟨[],by simp [visitN]⟩
  | j+1,s=>by
    obtain ⟨m,hm⟩:=visitN_app (l:=l) (j:=j) (s:=s)
    simp only [visitN,visit1]
    split
    · exact ⟨m++[l.getD j 0],by simp [hm]⟩
    · exact ⟨m,hm⟩
theorem visitN_hit {n:Nat} {l:List Int} (hl:∀ t ∈ l,0≤t∧t<(n:Int)):∀ {k:Nat} {s:List Bool × List Int},s.1.length=n→k≤l.length→∀ p,p<k→(visitN s l k).1.getD (l.getD p 0).toNat false=false
  | 0,_,_,_,p,hp=>absurd hp (Nat.not_lt_zero _)
  | k+1,s,hs,hk,p,hp=>by
    rcases Nat.lt_or_ge p k with h | h
    · have:=visitN_hit hl (k:=k) hs (by omega) p h
      simp only [visitN]
      cases hb:(visit1 (visitN s l k) (l.getD k 0)).1.getD (l.getD p 0).toNat false with
      | false=>rfl
      | true=>rw [Sub.visit1 _ _ _ hb] at this; cases this
    · obtain rfl:p=k:=by omega
      simp only [visitN,visit1]
      split
      · simp only [List.getD_eq_getElem?_getD,List.getElem?_set]
        rw [if_pos trivial]
        split <;> rfl
      · rename_i hc; simpa using hc
theorem visitN_new {l:List Int} (hl:∀ t ∈ l,0≤t):∀ {k:Nat} {s:List Bool × List Int},k≤l.length→∀ t ∈ (visitN s l k).2,t ∈ s.2∨t ∈ l∧s.1.getD t.toNat false=true
  | 0,s,_,t,ht=>.inl ht
  | k+1,s,hk,t,ht=>by
    simp only [visitN,visit1] at ht
    split at ht
    · rename_i hc
      rcases List.mem_append.1 ht with h | h
      · exact visitN_new hl (by omega) t h
      · simp only [List.mem_singleton] at h
        subst h
        exact .inr ⟨getD_mem (by omega),Sub.visitN _ _ _ _ hc⟩
    · exact visitN_new hl (by omega) t ht
theorem visitN_left {n:Nat} {l:List Int} (hl:∀ t ∈ l,0≤t∧t<(n:Int)):∀ {k:Nat} {s:List Bool × List Int},k≤l.length→∀ i:Nat,s.1.getD i false=true→(visitN s l k).1.getD i false=true∨(i:Int) ∈ (visitN s l k).2
  | 0,s,_,i,hi=>.inl hi
  | k+1,s,hk,i,hi=>by
    have h0:=hl _ (getD_mem (l:=l) (j:=k) (by omega))
    have h00:=h0.1
    rcases visitN_left hl (k:=k) (s:=s) (by omega) i hi with h | h
    · simp only [visitN,visit1]
      split
      · by_cases e:i=(l.getD k 0).toNat
        · right
          apply List.mem_append_right
          rw [show (i:Int)=l.getD k 0 from by omega]
          exact List.mem_singleton.2 rfl
        · left
          rw [List.getD_eq_getElem?_getD] at h ⊢
          rw [List.getElem?_set_ne (fun g=>e g.symm)]
          exact h
      · exact .inl h
    · right
      simp only [visitN,visit1]
      split
      · exact List.mem_append_left _ h
      · exact h
structure BfsOK (W H:Nat) (ins:List Bool) (first k:Nat) (s:List Bool × List Int):Prop where
  reach:∀ t ∈ s.2,∃ i:Nat,t=(i:Int)∧Rch W H ins first i
  done:∀ p,p<k→p<s.2.length→∀ t ∈ nb W H (s.2.getD p 0).toNat,s.1.getD t.toNat false=false
  left:∀ i:Nat,ins.getD i false=true→s.1.getD i false=true∨(i:Int) ∈ s.2
  first:(first:Int) ∈ s.2
theorem bfs_ok {W H first:Nat} {ins:List Bool} (hn:ins.length=W*H) (hf:first<W*H) (hi:ins.getD first false=true):∀ k,BfsOK W H ins first k (bfs W H ins first k)
  | 0=>by
    refine ⟨?_,fun p hp=>absurd hp (Nat.not_lt_zero _),?_,by simp [bfs]⟩
    · intro t ht
      simp only [bfs,List.mem_singleton] at ht
      exact ⟨first,ht,.refl hi⟩
    · intro i h
      simp only [bfs,List.mem_singleton]
      by_cases e:i=first
      · right; omega
      · left
        simp only [List.getD_eq_getElem?_getD] at h ⊢
        rw [List.getElem?_set_ne (by omega)]
        exact h
  | k+1=>by
    have ih:=bfs_ok hn hf hi k
    have hinv:=bfs_inv hn hf k
    have hsub:=Sub.bfs W H ins first k
    simp only [bfs]
    generalize bfs W H ins first k=s at *
    split
    · rename_i hk
      have hq:=hinv.2.2 _ (getD_mem hk)
      generalize hc:s.2.getD k 0=c at *
      have hl:∀ t ∈ nb W H c.toNat,0≤t∧t<((W*H:Nat):Int):=fun t ht=>nb_mem ht
      obtain ⟨m,hm⟩:=visitN_app (l:=nb W H c.toNat) (j:=(nb W H c.toNat).length) (s:=s)
      refine ⟨?_,?_,?_,?_⟩
      · intro t ht
        rcases visitN_new (fun t ht=>(hl t ht).1) (Nat.le_refl _) t ht with h | ⟨h1,h2⟩
        · exact ih.reach t h
        · obtain ⟨i,e,hr⟩:=ih.reach c (by rw [← hc]; exact getD_mem hk)
          subst e
          have h3:=(hl t h1).1
          refine ⟨t.toNat,by omega,.step hr ?_ (hsub _ h2)⟩
          rw [Int.toNat_of_nonneg h3]
          simpa using h1
      · intro p hp hp2 t ht
        rcases Nat.lt_or_ge p k with h | h
        · rw [hm] at ht
          have e:(s.2++m).getD p 0=s.2.getD p 0:=by
            simp only [List.getD_eq_getElem?_getD]; rw [List.getElem?_append_left (by omega)]
          rw [e] at ht
          have h1:=ih.done p h (by omega) t ht
          cases hb:(visitN s (nb W H c.toNat) (nb W H c.toNat).length).1.getD t.toNat false with
          | false=>rfl
          | true=>rw [Sub.visitN _ _ _ _ hb] at h1; cases h1
        · obtain rfl:p=k:=by omega
          have e:(visitN s (nb W H c.toNat) (nb W H c.toNat).length).2.getD p 0=c:=by
            rw [hm,← hc]
            simp only [List.getD_eq_getElem?_getD]; rw [List.getElem?_append_left (by omega)]
          rw [e] at ht
          obtain ⟨x,hx,he⟩:=List.mem_iff_getElem.1 ht
          have:=visitN_hit hl hinv.1 (Nat.le_refl _) x hx
          rw [show (nb W H c.toNat).getD x 0=t from by simp [List.getD_eq_getElem?_getD,List.getElem?_eq_getElem hx,he]] at this
          exact this
      · intro i h
        rcases ih.left i h with h1 | h1
        · exact visitN_left hl (Nat.le_refl _) i h1
        · right; rw [hm]; exact List.mem_append_left _ h1
      · rw [hm]; exact List.mem_append_left _ ih.first
    · rename_i hk
      refine ⟨ih.reach,?_,ih.left,ih.first⟩
      intro p hp hp2 t ht
      exact ih.done p (by omega) hp2 t ht
theorem bfs_inv2 {W H first:Nat} {ins:List Bool}:∀ k,Inv2 (bfs W H ins first k)
  | 0=>Inv2.start
  | k+1=>by
    have ih:=bfs_inv2 (W:=W) (H:=H) (first:=first) (ins:=ins) k
    simp only [bfs]
    split
    · have:∀ (l:List Int),(∀ t ∈ l,0≤t)→∀ (s:List Bool × List Int),Inv2 s→∀ j,j≤l.length→Inv2 (visitN s l j):=by
        intro l hl s hs j
        induction j with
        | zero=>intro _; exact hs
        | succ j ihj =>
          intro hj
          have h1:=ihj (by omega)
          simp only [visitN,visit1]
          split
          · rename_i hc
            have h0:=hl _ (getD_mem (l:=l) (j:=j) (by omega))
            have e:l.getD j 0=(((l.getD j 0).toNat:Nat):Int):=by omega
            generalize (l.getD j 0).toNat=q at *
            rw [e]
            exact Inv2.take (ins:=(visitN s l j).1) (l:=(visitN s l j).2) h1 hc
          · exact h1
      exact this _ (fun t ht=>(nb_mem ht).1) _ ih _ (Nat.le_refl _)
    · exact ih
theorem part_iff {W H first:Nat} {ins:List Bool} (hn:ins.length=W*H) (hi:ins.getD first false=true) (i:Nat) :
    (i:Int) ∈ (part W H ins first).2↔Rch W H ins first i:=by
  have hf:first<W*H:=(Rch.refl hi:Rch W H ins first first).lt hn
  have ho:=bfs_ok hn hf hi (W*H)
  have hv:=bfs_inv hn hf (W*H)
  unfold part
  simp only
  generalize bfs W H ins first (W*H)=s at *
  have hmem:(i:Int) ∈ asc (marks (W*H) s.2 s.2.length) (W*H)↔(i:Int) ∈ s.2:=by
    rw [asc_mem]
    constructor
    · rintro ⟨q,e,hq,hm⟩
      obtain rfl:i=q:=by omega
      rw [marks_get hv.2.2 _ (Nat.le_refl _)] at hm
      simpa using hm
    · intro h
      refine ⟨i,rfl,by have:=hv.2.2 _ h; omega,?_⟩
      rw [marks_get hv.2.2 _ (Nat.le_refl _)]
      simpa using h
  rw [hmem]
  constructor
  · intro h
    obtain ⟨q,e,hr⟩:=ho.reach _ h
    obtain rfl:i=q:=by omega
    exact hr
  · intro h
    clear hmem
    induction h with
    | refl _=>exact ho.first
    | step h1 h2 h3 ih =>
      rename_i a b
      rcases ho.left b h3 with h | h
      · obtain ⟨x,hx,he⟩:=List.mem_iff_getElem.1 ih
        have:=ho.done x (by have:=hv.2.1; omega) hx (b:Int) (by
          rw [show s.2.getD x 0=(a:Int) from by simp [List.getD_eq_getElem?_getD,List.getElem?_eq_getElem hx,he]]
          simpa using h2)
        simp only [Int.toNat_natCast] at this
        rw [this] at h; cases h
      · exact h
theorem part_out {W H first:Nat} {ins:List Bool} (hn:ins.length=W*H) (hi:ins.getD first false=true) (i:Nat) :
    (part W H ins first).1.getD i false=true↔ins.getD i false=true∧¬ Rch W H ins first i:=by
  have hf:first<W*H:=(Rch.refl hi:Rch W H ins first first).lt hn
  have ho:=bfs_ok hn hf hi (W*H)
  have hv:=bfs_inv hn hf (W*H)
  have h2:=bfs_inv2 (W:=W) (H:=H) (first:=first) (ins:=ins) (W*H)
  have hp:=part_iff hn hi i
  have hmem:(i:Int) ∈ (part W H ins first).2↔(i:Int) ∈ (bfs W H ins first (W*H)).2:=by
    unfold part
    simp only
    rw [asc_mem]
    constructor
    · rintro ⟨q,e,hq,hm⟩
      obtain rfl:i=q:=by omega
      rw [marks_get hv.2.2 _ (Nat.le_refl _)] at hm
      simpa using hm
    · intro h
      refine ⟨i,rfl,by have:=hv.2.2 _ h; omega,?_⟩
      rw [marks_get hv.2.2 _ (Nat.le_refl _)]
      simpa using h
  rw [hmem] at hp
  rw [← hp]
  constructor
  · intro h
    refine ⟨Sub.part _ _ _ _ _ h,fun hm=>?_⟩
    have:=(h2.2 _ hm).2
    simp only [Int.toNat_natCast] at this
    have h':(bfs W H ins first (W*H)).1.getD i false=true:=h
    rw [this] at h'; cases h'
  · rintro ⟨h1,h3⟩
    rcases ho.left i h1 with h | h
    · exact h
    · exact absurd h h3
theorem part_asc {W H first:Nat} {ins:List Bool}:(part W H ins first).2.Pairwise (·<·):=asc_sorted _
theorem part_rng {W H first:Nat} {ins:List Bool} {t:Int} (h:t ∈ (part W H ins first).2):0≤t∧t<((W*H:Nat):Int):=by
  unfold part at h
  obtain ⟨i,rfl,hi,_⟩:=asc_mem.1 h
  omega
theorem part_eq {W H a b:Nat} {ins cs:List Bool} (hn:ins.length=W*H) (hm:cs.length=W*H) (ha:ins.getD a false=true) (hb:cs.getD b false=true) (h:∀ i,Rch W H ins a i↔Rch W H cs b i) :
    (part W H ins a).2=(part W H cs b).2:=by
  apply eq_of_sorted part_asc part_asc
  intro t
  constructor
  · intro ht
    obtain ⟨i,rfl⟩:=Int.eq_ofNat_of_zero_le (part_rng ht).1
    exact (part_iff hm hb i).2 ((h i).1 ((part_iff hn ha i).1 ht))
  · intro ht
    obtain ⟨i,rfl⟩:=Int.eq_ofNat_of_zero_le (part_rng ht).1
    exact (part_iff hn ha i).2 ((h i).2 ((part_iff hm hb i).1 ht))
def IsMin (W H:Nat) (bs:List Bool) (f:Nat):Prop:=bs.getD f false=true∧∀ i,Rch W H bs f i→f≤i
structure PartsOK (W H:Nat) (least:Int) (bs:List Bool) (k:Nat) (s:List Bool × List (List Int)):Prop where
  len:s.1.length=W*H
  sub:Sub s.1 bs
  gone:∀ i,i<k→s.1.getD i false=false
  closed:∀ i j:Nat,s.1.getD i false=true→(j:Int) ∈ nb W H i→bs.getD j false=true→s.1.getD j false=true
  mem:∀ x,x ∈ s.2↔∃ f,f<k∧IsMin W H bs f∧x=(part W H bs f).2∧least≤(x.length:Int)
  out:∀ i,bs.getD i false=true→s.1.getD i false=false→∃ f,f<k∧IsMin W H bs f∧Rch W H bs f i
  apart:s.2.Pairwise (fun a b=>∀ t ∈ a,t ∉ b)
  past:∀ x ∈ s.2,∀ i:Nat,(i:Int) ∈ x→s.1.getD i false=false
theorem partsF_ok {W H:Nat} {least:Int} {bs:List Bool} (hn:bs.length=W*H):∀ k,PartsOK W H least bs k (partsF W H least bs k)
  | 0=>by
    refine ⟨hn,Sub.refl _,fun i hi=>absurd hi (Nat.not_lt_zero _),fun _ _ _ _ h=>h,?_,?_,.nil,?_⟩
    · intro x
      constructor
      · intro h; simp [partsF] at h
      · rintro ⟨f,hf,_⟩; exact absurd hf (Nat.not_lt_zero _)
    · intro i h1 h2
      simp only [partsF] at h2
      rw [h1] at h2; cases h2
    · intro x hx; simp [partsF] at hx
  | k+1=>by
    have ih:=partsF_ok (least:=least) hn k
    simp only [partsF]
    generalize partsF W H least bs k=s at *
    obtain ⟨ins,xss⟩:=s
    simp only at *
    split
    · rename_i hc
      have hcb:=ih.sub _ hc
      have hlen:=ih.len
      have hkn:k<W*H:=(Rch.refl hc:Rch W H ins k k).lt hlen
      have hR:∀ i,Rch W H ins k i↔Rch W H bs k i:=fun i=>⟨fun h=>h.mono ih.sub,fun h=>h.within hc ih.closed⟩
      have hE:=part_eq hlen hn hc hcb hR
      have hmin:IsMin W H bs k:=⟨hcb,fun i hi=>by
        rcases Nat.lt_or_ge i k with h | h
        · have:=ih.gone i h
          rw [((hR i).2 hi).right] at this; cases this
        · exact h⟩
      have hO:=fun i=>part_out hlen hc i
      have hP:=fun i=>part_iff hlen hc i
      refine ⟨part_len hlen hkn,?_,?_,?_,?_,?_,?_,?_⟩
      · exact fun i hi=>ih.sub i ((hO i).1 hi).1
      · intro i hi
        cases hb:(part W H ins k).1.getD i false with
        | false=>rfl
        | true =>
          obtain ⟨h1,h2⟩:=(hO i).1 hb
          rcases Nat.lt_or_ge i k with h | h
          · rw [ih.gone i h] at h1; cases h1
          · obtain rfl:i=k:=by omega
            exact absurd (Rch.refl h1) h2
      · intro i j h1 h2 h3
        obtain ⟨g1,g2⟩:=(hO i).1 h1
        refine (hO j).2 ⟨ih.closed i j g1 h2 h3,fun hr=>g2 ?_⟩
        have hj:=nb_lt h2
        have hi:i<W*H:=(Rch.refl g1:Rch W H ins i i).lt hlen
        exact hr.step (nb_symm hi hj h2) g1
      · intro x
        constructor
        · intro hx
          rcases List.mem_append.1 hx with h | h
          · obtain ⟨f,h1,h2⟩:=(ih.mem x).1 h
            exact ⟨f,by omega,h2⟩
          · split at h
            · rename_i hl
              simp only [List.mem_singleton] at h
              subst h
              exact ⟨k,by omega,hmin,hE,hl⟩
            · simp at h
        · rintro ⟨f,h1,h2,h3,h4⟩
          rcases Nat.lt_or_ge f k with h | h
          · exact List.mem_append_left _ ((ih.mem x).2 ⟨f,h,h2,h3,h4⟩)
          · obtain rfl:f=k:=by omega
            apply List.mem_append_right
            rw [if_pos (by rw [hE,← h3]; exact h4),hE,h3]
            simp
      · intro i h1 h2
        cases hb:ins.getD i false with
        | false =>
          obtain ⟨f,g1,g2⟩:=ih.out i h1 hb
          exact ⟨f,by omega,g2⟩
        | true =>
          refine ⟨k,by omega,hmin,?_⟩
          have:Rch W H ins k i:=Classical.byContradiction fun hn'=>by
            rw [(hO i).2 ⟨hb,hn'⟩] at h2; cases h2
          exact (hR i).1 this
      · rw [List.pairwise_append]
        refine ⟨ih.apart,?_,?_⟩
        · split
          · exact List.pairwise_singleton _ _
          · exact .nil
        · intro a ha b hb t ht htb
          split at hb
          · simp only [List.mem_singleton] at hb
            subst hb
            obtain ⟨i,rfl⟩:=Int.eq_ofNat_of_zero_le (part_rng htb).1
            have h1:=ih.past a ha i ht
            rw [((hP i).1 htb).right] at h1; cases h1
          · simp at hb
      · intro x hx i hi
        cases hb:(part W H ins k).1.getD i false with
        | false=>rfl
        | true =>
          obtain ⟨h1,h2⟩:=(hO i).1 hb
          rcases List.mem_append.1 hx with h | h
          · rw [ih.past x h i hi] at h1; cases h1
          · split at h
            · simp only [List.mem_singleton] at h
              subst h
              exact absurd ((hP i).1 hi) h2
            · simp at h
    · rename_i hc
      refine ⟨ih.len,ih.sub,?_,ih.closed,?_,?_,ih.apart,ih.past⟩
      · intro i hi
        rcases Nat.lt_or_ge i k with h | h
        · exact ih.gone i h
        · obtain rfl:i=k:=by omega
          simpa using hc
      · intro x
        rw [ih.mem x]
        constructor
        · rintro ⟨f,h1,h2⟩; exact ⟨f,by omega,h2⟩
        · rintro ⟨f,h1,h2,h3⟩
          rcases Nat.lt_or_ge f k with h | h
          · exact ⟨f,h,h2,h3⟩
          · obtain rfl:f=k:=by omega
            obtain ⟨g,g1,g2,g3⟩:=ih.out f h2.1 (by simpa using hc)
            have:=h2.2 g (g3.symm hn)
            omega
      · intro i h1 h2
        obtain ⟨f,g1,g2⟩:=ih.out i h1 h2
        exact ⟨f,by omega,g2⟩
end Det
