/- What the models of the package wide give: Cmp, Add, Neg, division by one limb. -/
import Derived.Test.YtdcfjndokifgeaaWM1
set_option linter.unusedVariables false
set_option linter.unusedSimpArgs false
namespace Go.Proofs.Ytdcfjndokifgeaa
open Go Go.SL
theorem m_sub32 (F:Nat) {x y b:Int} (hx:0≤x∧x<4294967296) (hy:0≤y∧y<4294967296) (hb:b=0∨b=1):m_math_bits_Sub32 F x y b=some ((x-y-b) % 4294967296,if x<y+b then 1 else 0):=by
  unfold m_math_bits_Sub32
  have e:IntKind.u32.wrap (IntKind.u32.wrap (x-y)-b)=(x-y-b) % 4294967296:=by rw [u32w,u32w]; omega
  rw [Option.bind_some,e,borrow32 hx hy hb rfl,Option.bind_some]
theorem m_add32 (F:Nat) {x y b:Int} (hx:0≤x∧x<4294967296) (hy:0≤y∧y<4294967296) (hb:b=0∨b=1):m_math_bits_Add32 F x y b=some ((x+y+b) % 4294967296,(x+y+b)/4294967296):=by
  unfold m_math_bits_Add32
  rw [u64_id (x:=x) (by omega),u64_id (x:=y) (by omega),u64_id (x:=x+y) (by omega),u64_id (x:=b) (by omega),u64_id (by omega),Option.bind_some,fd32,Option.bind_some,u32w,u32_id (by omega)]
theorem m_div32 (F:Nat) {h l d:Int} (hl:0≤l∧l<4294967296) (hd:0<d∧d<4294967296) (hh:0≤h∧h<d):m_math_bits_Div32 F h l d=some ((h*4294967296+l)/d,(h*4294967296+l) % d):=by
  unfold m_math_bits_Div32
  have e0:((2:Int)^32)=4294967296:=by decide
  have h1:=(bor_add (x:=h) (c:=l) 32 hh.1 (by rw [e0]; exact hl) (by rw [e0]; omega)).1
  rw [e0] at h1
  rw [if_neg (by simp; omega),u64_id (x:=h) (by omega),e0,u64_id (x:=h*4294967296) (by omega),u64_id (x:=l) (by omega),h1,Option.bind_some,u64_id (x:=d) (by omega),if_pos (by omega),if_pos (by omega),Option.bind_some,Option.bind_some,
    Int.tdiv_eq_ediv_of_nonneg (by omega),Int.tmod_eq_emod_of_nonneg (by omega)]
  have q1:(h*4294967296+l)/d<4294967296:=Int.ediv_lt_of_lt_mul hd.1 (by
    have:(h+1)*4294967296≤d*4294967296:=Int.mul_le_mul_of_nonneg_right (by omega) (by omega)
    omega)
  have q0:0≤(h*4294967296+l)/d:=Int.ediv_nonneg (by omega) (by omega)
  have r0:=Int.emod_nonneg (h*4294967296+l) (show d≠0 by omega)
  have r1:=Int.emod_lt_of_pos (h*4294967296+l) hd.1
  rw [u32_id (x:=(h*4294967296+l) % d) (by omega),u64_id (x:=(h*4294967296+l)/d) (by omega),u32_id (x:=(h*4294967296+l)/d) (by omega)]
theorem cmp_l (F:Nat) {a b:List Int} (hb:Lim b):∀ t:List Int,Lim t→t.length≤b.length→m_wide_compare_l1 F b (downL t)=some (cmpI (lval t) (lval (b.take t.length))):=by
  intro t
  induction t using snoc_ind with
  | h0=>intro _ _; simp [downL_nil,m_wide_compare_l1,m_wide_compare_j1,lval,cmpI]
  | hs t x ih =>
    intro hl hn
    simp only [List.length_append,List.length_singleton] at hn ⊢
    have hy:b[t.length]? = some b[t.length]:=List.getElem?_eq_getElem (by omega)
    rw [downL_snoc]
    show m_wide_compare_b1 F b (m_wide_compare_l1 F b (downL t)) (t.length:Int) x=_
    unfold m_wide_compare_b1 m_wide_compare_s1
    rw [ixn hy,Option.bind_some,ih hl.left (by omega),lval_snoc,lval_take hy]
    have h1:=lval_lt hl.left
    have h2:=lval_nonneg hl.left
    have h3:=lval_lt (hb.take t.length)
    have h4:=lval_nonneg (hb.take t.length)
    rw [List.length_take,Nat.min_eq_left (by omega)] at h3
    generalize b[t.length]=y at *
    generalize lval t=u at *
    generalize lval (b.take t.length)=v at *
    have hp:=BP_pos t.length
    generalize BP t.length=p at *
    unfold cmpI
    by_cases hxy:x<y
    · have:p*(x+1)≤p*y:=Int.mul_le_mul_of_nonneg_left (by omega) (by omega)
      rw [Int.mul_add] at this
      rw [if_pos hxy,if_pos (by omega)]
    · rw [if_neg hxy]
      by_cases hyx:x>y
      · have:p*(y+1)≤p*x:=Int.mul_le_mul_of_nonneg_left (by omega) (by omega)
        rw [Int.mul_add] at this
        rw [if_pos hyx,if_neg (by omega),if_pos (by omega)]
      · obtain rfl:x=y:=by omega
        rw [if_neg hyx]
        have g1:(u+p*x<v+p*x)=(u<v):=by simp only [eq_iff_iff]; omega
        have g2:(v+p*x<u+p*x)=(v<u):=by simp only [eq_iff_iff]; omega
        simp only [g1,g2]
theorem w_compare {F:Nat} {a b:List Int} {z z':Int} (ha:Is a z) (hb:Is b z'):m_wide_compare F a b=some (cmpI z z'):=by
  unfold m_wide_compare m_wide_down
  by_cases hl:a.length=b.length
  · rw [if_neg (by omega),Option.bind_some,cmp_l (a:=a) F hb.lim a ha.lim (by omega),hl,List.take_length,ha.val,hb.val]
  · rw [if_pos (by omega)]
    have key:∀ {a b:List Int} {z z':Int},Is a z→Is b z'→a.length<b.length→z<z':=fun {a b z z'} ha hb h=>by
      have h1:=ha.lt
      have h2:=hb.ge (fun e=>by subst e; simp at h)
      have h3:=BP_mono (show a.length≤b.length-1 by omega)
      omega
    by_cases h1:a.length<b.length
    · have:=key ha hb h1
      rw [if_pos (by omega)]; unfold cmpI; rw [if_pos this]
    · have:=key hb ha (by omega)
      rw [if_neg (by omega)]; unfold cmpI; rw [if_neg (by omega),if_pos this]
section
variable {F:Nat} (hF:4300000000≤F)
include hF
omit hF in
theorem plus_l {a b:List Int} (ha:Lim a) (hb:Lim b) (hla:a.length≤5000) (hab:b.length≤a.length):∀ (m N i:Nat) (o:List Int) (c:Int),i+m=a.length→m<N→o.length=a.length+1→Lim o→(c=0∨c=1)→(∀ j,i≤j→j<o.length→o[j]? = some 0)→lval o+c*BP i=lval (a.take i)+lval (b.take i) →
    ∃ r,m_wide_plus_l2 F a b N o c (i:Int)=some r∧r.length=a.length+1∧Lim r∧lval r=lval a+lval b
  | _,0,_,_,_,_,h,_,_,_,_,_=>by omega
  | 0,N+1,i,o,c,hi,_,ho,hlo,hc,hz,hv=>by
    have e1:m_wide_plus_l2 F a b (N+1) o c (i:Int)=m_wide_plus_b2 F a b (m_wide_plus_l2 F a b N) o c (i:Int):=rfl
    rw [e1]
    unfold m_wide_plus_b2 m_wide_plus_j1
    obtain rfl:i=a.length:=by omega
    have h0:=hz a.length (Nat.le_refl _) (by omega)
    rw [if_neg (by omega),ixn h0,Option.bind_some,Int.toNat_natCast]
    refine ⟨_,rfl,by simpa using ho,hlo.set _ (by omega),?_⟩
    rw [lval_set _ h0]
    rw [List.take_length,List.take_of_length_le hab] at hv
    rw [← hv]
    grind
  | m+1,N+1,i,o,c,hi,hN,ho,hlo,hc,hz,hv=>by
    have e1:m_wide_plus_l2 F a b (N+1) o c (i:Int)=m_wide_plus_b2 F a b (m_wide_plus_l2 F a b N) o c (i:Int):=rfl
    rw [e1]
    unfold m_wide_plus_b2
    have hx:a[i]? = some a[i]:=List.getElem?_eq_getElem (by omega)
    have bx:=ha.at hx
    have h0:=hz i (Nat.le_refl _) (by omega)
    have key:∀ y:Int,0≤y∧y<4294967296→lval (b.take (i+1))=lval (b.take i)+BP i*y→∃ r,m_wide_plus_j3 F a[i] c o (i:Int) (m_wide_plus_l2 F a b N) y=some r∧r.length=a.length+1∧Lim r∧lval r=lval a+lval b:=fun y hy hvy=>by
      unfold m_wide_plus_j3
      rw [m_add32 F bx hy hc,Option.bind_some,ixn h0,Option.bind_some,Int.toNat_natCast,wS (by omega)]
      refine plus_l ha hb hla hab m N (i+1) _ _ (by omega) (by omega) (by simpa using ho) (hlo.set _ (by omega)) (by omega) (fun j hj hjl=>?_) ?_
      · simp only [List.length_set] at hjl
        rw [List.getElem?_set_ne (by omega)]; exact hz j (by omega) hjl
      · rw [lval_set _ h0,lval_take hx,hvy,BP_succ]
        have hmod:=Int.mul_ediv_add_emod (a[i]+y+c) 4294967296
        clear hx h0 bx e1 hz
        generalize a[i]=x at *
        generalize (x+y+c)/4294967296=q at *
        generalize (x+y+c) % 4294967296=s at *
        generalize BP i=p at *
        have hs:s=x+y+c-4294967296*q:=by omega
        rw [hs]
        grind
    rw [if_pos (by omega),ixn hx,Option.bind_some]
    by_cases hib:i<b.length
    · have hy:b[i]? = some b[i]:=List.getElem?_eq_getElem hib
      rw [if_pos (by omega),ixn hy,Option.bind_some]
      exact key _ (hb.at hy) (lval_take hy)
    · rw [if_neg (by omega)]
      refine key 0 (by omega) ?_
      rw [List.take_of_length_le (by omega),List.take_of_length_le (by omega)]; simp
theorem w_plus {a b:List Int} (ha:Lim a) (hb:Lim b) (hla:a.length≤4000) (hlb:b.length≤4000):∃ r,m_wide_plus F a b=some r∧r.length≤4001∧r.length≤max a.length b.length+1∧Lim r∧lval r=lval a+lval b:=by
  have key:∀ {a b:List Int},Lim a→Lim b→a.length≤4000→b.length≤a.length→∃ r,m_wide_plus_j4 F a b=some r∧r.length=a.length+1∧Lim r∧lval r=lval a+lval b:=fun {a b} ha hb hla hab=>by
    unfold m_wide_plus_j4
    rw [wS (by omega),if_pos (by omega),Int.toNat_natCast]
    exact plus_l ha hb (by omega) hab a.length F 0 _ 0 (by omega) (by omega) (by simp) (Lim.zeros _) (.inl rfl) (fun j _ hj=>by simp at hj; rw [List.getElem?_replicate,if_pos hj]) (by rw [lval_zeros]; simp [lval])
  unfold m_wide_plus
  by_cases h:(a.length:Int)<(b.length:Int)
  · rw [if_pos h]
    obtain ⟨r,h1,h2,h3,h4⟩:=key hb ha hlb (by omega)
    exact ⟨r,h1,by omega,by omega,h3,by omega⟩
  · rw [if_neg h]
    obtain ⟨r,h1,h2,h3,h4⟩:=key ha hb hla (by omega)
    exact ⟨r,h1,by omega,by omega,h3,h4⟩
omit hF in
theorem minus_l {a b:List Int} (ha:Lim a) (hb:Lim b) (hla:a.length≤5000) (hab:b.length≤a.length) (hle:lval b≤lval a):∀ (m N i:Nat) (o:List Int) (c:Int),i+m=a.length→m<N→o.length=a.length→Lim o→(c=0∨c=1)→(∀ j,i≤j→j<o.length→o[j]? = some 0)→lval o-c*BP i=lval (a.take i)-lval (b.take i) →
    ∃ r,m_wide_minus_l2 F a b N o c (i:Int)=some r∧r.length=a.length∧Lim r∧lval r=lval a-lval b
  | _,0,_,_,_,_,h,_,_,_,_,_=>by omega
  | 0,N+1,i,o,c,hi,_,ho,hlo,hc,hz,hv=>by
    have e1:m_wide_minus_l2 F a b (N+1) o c (i:Int)=m_wide_minus_b2 F a b (m_wide_minus_l2 F a b N) o c (i:Int):=rfl
    rw [e1]
    unfold m_wide_minus_b2 m_wide_minus_j1
    obtain rfl:i=a.length:=by omega
    rw [if_neg (by omega)]
    rw [List.take_length,List.take_of_length_le hab] at hv
    refine ⟨o,rfl,ho,hlo,?_⟩
    have h1:=lval_lt hlo
    rw [ho] at h1
    rcases hc with rfl | rfl
    · omega
    · omega
  | m+1,N+1,i,o,c,hi,hN,ho,hlo,hc,hz,hv=>by
    have e1:m_wide_minus_l2 F a b (N+1) o c (i:Int)=m_wide_minus_b2 F a b (m_wide_minus_l2 F a b N) o c (i:Int):=rfl
    rw [e1]
    unfold m_wide_minus_b2
    have hx:a[i]? = some a[i]:=List.getElem?_eq_getElem (by omega)
    have bx:=ha.at hx
    have h0:=hz i (Nat.le_refl _) (by omega)
    have key:∀ y:Int,0≤y∧y<4294967296→lval (b.take (i+1))=lval (b.take i)+BP i*y→∃ r,m_wide_minus_j3 F a[i] c o (i:Int) (m_wide_minus_l2 F a b N) y=some r∧r.length=a.length∧Lim r∧lval r=lval a-lval b:=fun y hy hvy=>by
      unfold m_wide_minus_j3
      rw [m_sub32 F bx hy hc,Option.bind_some,ixn h0,Option.bind_some,Int.toNat_natCast,wS (by omega)]
      refine minus_l ha hb hla hab hle m N (i+1) _ _ (by omega) (by omega) (by simpa using ho) (hlo.set _ (by omega)) (by simp only; split <;> simp) (fun j hj hjl=>?_) ?_
      · simp only [List.length_set] at hjl
        rw [List.getElem?_set_ne (by omega)]; exact hz j (by omega) hjl
      · rw [lval_set _ h0,lval_take hx,hvy,BP_succ]
        have hs:(a[i]-y-c) % 4294967296=a[i]-y-c+4294967296*(if a[i]<y+c then 1 else 0):=by split <;> omega
        simp only
        rw [hs]
        generalize (if a[i]<y+c then (1:Int) else 0)=q at *
        generalize BP i=p at *
        grind
    rw [if_pos (by omega),ixn hx,Option.bind_some]
    by_cases hib:i<b.length
    · have hy:b[i]? = some b[i]:=List.getElem?_eq_getElem hib
      rw [if_pos (by omega),ixn hy,Option.bind_some]
      exact key _ (hb.at hy) (lval_take hy)
    · rw [if_neg (by omega)]
      refine key 0 (by omega) ?_
      rw [List.take_of_length_le (by omega),List.take_of_length_le (by omega)]; simp
theorem w_minus {a b:List Int} (ha:Lim a) (hb:Lim b) (hla:a.length≤5000) (hab:b.length≤a.length) (hle:lval b≤lval a):∃ r,m_wide_minus F a b=some r∧r.length=a.length∧Lim r∧lval r=lval a-lval b:=by
  unfold m_wide_minus
  rw [if_pos (by omega),Int.toNat_natCast]
  exact minus_l ha hb hla hab hle a.length F 0 _ 0 (by omega) (by omega) (by simp) (Lim.zeros _) (.inl rfl) (fun j _ hj=>by simp at hj; rw [List.getElem?_replicate,if_pos hj]) (by rw [lval_zeros]; simp [lval])
omit hF in
theorem Is_len_le {a b:List Int} {z z':Int} (ha:Is a z) (hb:Is b z') (h:z'≤z):b.length≤a.length:=hb.len (Int.lt_of_le_of_lt h ha.lt)
theorem w_add {b b':Bool} {l l':List Int} {z z':Int} (h:IsW b l z) (h':IsW b' l' z') (hn:l.length≤2000) (hn':l'.length≤2000):∃ c r,m_wide_add F b l b' l'=some (c,r,0)∧IsW c r (z+z'):=by
  unfold m_wide_add
  rw [w_compare h.is h'.is,Option.bind_some]
  have hb:=h.neg
  have hb':=h'.neg
  by_cases hbb:b=b'
  · rw [if_pos (by simp [hbb])]
    obtain ⟨r,h1,h2,_,h3,h4⟩:=w_plus hF h.is.lim h'.is.lim (by omega) (by omega)
    rw [h1,Option.bind_some]
    obtain ⟨c,q,h5,h6⟩:=w_made hF h3 (by omega) b
    rw [h5,Option.bind_some]
    refine ⟨c,q,rfl,?_⟩
    rw [h4,h.is.val,h'.is.val] at h6
    have:(if b=true then -((z.natAbs:Int)+(z'.natAbs:Int)) else (z.natAbs:Int)+(z'.natAbs:Int))=z+z':=by
      rw [hb] at hbb ⊢
      rw [hb'] at hbb
      simp only [decide_eq_decide] at hbb
      simp only [decide_eq_true_eq]
      split <;> omega
    rw [this] at h6; exact h6
  · rw [if_neg (by simpa using hbb)]
    have hne:(z<0∧0≤z')∨(0≤z∧z'<0):=by
      rw [hb,hb'] at hbb
      simp only [decide_eq_decide] at hbb
      omega
    by_cases hc:cmpI (z.natAbs:Int) (z'.natAbs:Int)≥0
    · rw [if_pos hc]
      have hle:(z'.natAbs:Int)≤(z.natAbs:Int):=by
        unfold cmpI at hc
        split at hc
        · omega
        · omega
      obtain ⟨r,h1,h2,h3,h4⟩:=w_minus hF h.is.lim h'.is.lim (by omega) (Is_len_le h.is h'.is hle) (by rw [h.is.val,h'.is.val]; exact hle)
      rw [h1,Option.bind_some]
      obtain ⟨c,q,h5,h6⟩:=w_made hF h3 (by omega) b
      rw [h5,Option.bind_some]
      refine ⟨c,q,rfl,?_⟩
      rw [h4,h.is.val,h'.is.val] at h6
      have:(if b=true then -((z.natAbs:Int)-(z'.natAbs:Int)) else (z.natAbs:Int)-(z'.natAbs:Int))=z+z':=by
        rw [hb]
        simp only [decide_eq_true_eq]
        split <;> omega
      rw [this] at h6; exact h6
    · rw [if_neg hc]
      have hle:(z.natAbs:Int)≤(z'.natAbs:Int):=by
        unfold cmpI at hc
        split at hc
        · omega
        · split at hc <;> omega
      obtain ⟨r,h1,h2,h3,h4⟩:=w_minus hF h'.is.lim h.is.lim (by omega) (Is_len_le h'.is h.is hle) (by rw [h.is.val,h'.is.val]; exact hle)
      rw [h1,Option.bind_some]
      obtain ⟨c,q,h5,h6⟩:=w_made hF h3 (by omega) b'
      rw [h5,Option.bind_some]
      refine ⟨c,q,rfl,?_⟩
      rw [h4,h.is.val,h'.is.val] at h6
      have:(if b'=true then -((z'.natAbs:Int)-(z.natAbs:Int)) else (z'.natAbs:Int)-(z.natAbs:Int))=z+z':=by
        rw [hb']
        simp only [decide_eq_true_eq]
        split <;> omega
      rw [this] at h6; exact h6
theorem w_Add {b b':Bool} {l l':List Int} {z z':Int} (h:IsW b l z) (h':IsW b' l' z') (hn:l.length≤2000) (hn':l'.length≤2000):∃ c r,m_wide_Add F b l b' l'=some (c,r,0)∧IsW c r (z+z'):=by
  unfold m_wide_Add
  obtain ⟨c,r,h1,h2⟩:=w_add hF h h' hn hn'
  rw [w_check2 h (by omega) h' (by omega),Option.bind_some,if_neg (by decide),h1,Option.bind_some]
  exact ⟨c,r,rfl,h2⟩
omit hF in
theorem w_Cmp {b b':Bool} {l l':List Int} {z z':Int} (h:IsW b l z) (h':IsW b' l' z') (hn:l.length≤4096) (hn':l'.length≤4096):m_wide_Cmp F b l b' l'=some (cmpI z z',0):=by
  unfold m_wide_Cmp m_wide_signed_to
  rw [w_check2 h hn h' hn',Option.bind_some,if_neg (by decide),w_compare h.is h'.is,w_compare h'.is h.is,h.neg,h'.neg]
  unfold cmpI
  by_cases h1:z<0 <;> by_cases h2:z'<0
  · simp only [h1,h2,decide_true,Bool.not_true,Bool.and_false,Bool.false_eq_true,if_false,Bool.false_and,if_true,Option.bind_some]
    congr 2
    (repeat' split) <;> omega
  · have h3:z<z':=by omega
    simp only [h1,h2,decide_true,decide_false,Bool.not_false,Bool.and_true,if_true,Option.bind_some,h3]
  · have h3:¬ z<z':=by omega
    have h4:z'<z:=by omega
    simp only [h1,h2,decide_true,decide_false,Bool.not_true,Bool.and_false,Bool.false_eq_true,if_false,Bool.not_false,Bool.true_and,if_true,Option.bind_some,h3,h4]
  · simp only [h1,h2,decide_false,Bool.not_false,Bool.false_and,Bool.and_false,Bool.false_eq_true,if_false,Option.bind_some]
    congr 2
    (repeat' split) <;> omega
omit hF in
theorem w_clone {l:List Int} (hn:l.length≤1000000):m_slices_Clone_uint32_uint32 F l=some l:=by
  unfold m_slices_Clone_uint32_uint32
  rw [if_pos (by simp),if_pos (by omega)]; rfl
theorem w_Neg {b:Bool} {l:List Int} {z:Int} (h:IsW b l z) (hn:l.length≤4096):∃ c r,m_wide_Neg F b l=some (c,r,0)∧IsW c r (-z):=by
  unfold m_wide_Neg
  rw [w_check1 h hn,Option.bind_some,if_neg (by decide),w_clone (by omega),Option.bind_some]
  obtain ⟨c,q,h5,h6⟩:=w_made hF h.is.lim hn (!b)
  rw [h5,Option.bind_some]
  refine ⟨c,q,rfl,?_⟩
  rw [h.is.val,h.neg] at h6
  have:(if (!decide (z<0))=true then -(z.natAbs:Int) else (z.natAbs:Int))=-z:=by
    simp only [Bool.not_eq_true',decide_eq_false_iff_not]
    split <;> omega
  rw [this] at h6; exact h6
omit hF in
theorem short_l {d:Int} (hd:0<d∧d<4294967296):∀ (t:List Int),Lim t→∀ (o:List Int) (r:Int) (n:Nat) (T:Int),o.length=t.length+n→Lim o→0≤T→r=T % d→(∀ j,j<t.length→o[j]? = some 0)→lval o=BP t.length*(T/d) →
    ∃ o',m_wide_short_l1 F d (downL t) o r=m_wide_short_j1 F o' ((lval t+BP t.length*T) % d)∧Lim o'∧o'.length=o.length∧lval o'=(lval t+BP t.length*T)/d:=by
  intro t
  induction t using snoc_ind with
  | h0 =>
    intro _ o r n T ho hlo hT hr _ hv
    simp only [List.length_nil,BP_zero,Int.one_mul] at hv ⊢
    simp only [lval,Int.zero_add]
    exact ⟨o,by rw [downL_nil,hr]; rfl,hlo,rfl,hv⟩
  | hs t x ih =>
    intro hl o r n T ho hlo hT hr hz hv
    simp only [List.length_append,List.length_singleton] at ho hz hv ⊢
    have hx:=hl.right.head
    have h0:=hz t.length (by omega)
    have r0:=Int.emod_nonneg T (show d≠0 by omega)
    have r1:=Int.emod_lt_of_pos T hd.1
    rw [downL_snoc]
    show ∃ o',m_wide_short_b1 F d (m_wide_short_l1 F d (downL t)) (t.length:Int) x o r=_∧_
    unfold m_wide_short_b1
    rw [m_div32 F hx hd (by rw [hr]; exact ⟨r0,r1⟩),Option.bind_some,ixn h0,Option.bind_some,Int.toNat_natCast]
    have hTd:=Int.mul_ediv_add_emod T d
    have e1:r*4294967296+x=(4294967296*T+x)-d*(4294967296*(T/d)):=by
      rw [hr]
      generalize T/d=q at *
      generalize T % d=s at *
      grind
    have e2:(r*4294967296+x) % d=(4294967296*T+x) % d:=by rw [e1,Int.sub_mul_emod_self_left]
    have e3:(r*4294967296+x)/d=(4294967296*T+x)/d-4294967296*(T/d):=by rw [e1,Int.sub_mul_ediv_left _ _ (by omega)]
    have q1:(r*4294967296+x)/d<4294967296:=Int.ediv_lt_of_lt_mul hd.1 (by
      have:(r+1)*4294967296≤d*4294967296:=Int.mul_le_mul_of_nonneg_right (by omega) (by omega)
      omega)
    have q0:0≤(r*4294967296+x)/d:=Int.ediv_nonneg (by omega) (by omega)
    obtain ⟨o',g1,g2,g3,g4⟩:=ih hl.left (o.set t.length ((r*4294967296+x)/d)) ((r*4294967296+x) % d) (n+1) (4294967296*T+x) (by simp; omega) (hlo.set _ ⟨q0,q1⟩) (by omega) e2 (fun j hj=>by
      rw [List.getElem?_set_ne (by omega)]; exact hz j (by omega)) (by
      rw [lval_set _ h0,hv,BP_succ,e3]
      generalize BP t.length=p
      generalize T/d=q
      generalize (4294967296*T+x)/d=q'
      grind)
    have e4:lval t+BP t.length*(4294967296*T+x)=lval (t++[x])+BP (t.length+1)*T:=by
      rw [lval_snoc,BP_succ]; generalize BP t.length=p; grind
    rw [e4] at g1 g4
    exact ⟨o',g1,g2,by simpa using g3,g4⟩
theorem w_short {l:List Int} (hl:Lim l) (hn:l.length≤5000) {d:Int} (hd:0<d∧d<4294967296):∃ q,m_wide_short F l d=some (q,lval l % d)∧Is q (lval l/d):=by
  unfold m_wide_short m_wide_down
  rw [if_pos (by omega),Option.bind_some,Int.toNat_natCast]
  obtain ⟨o',h1,h2,h3,h4⟩:=short_l (F:=F) hd l hl (List.replicate l.length 0) 0 0 0 (by simp) (Lim.zeros _) (Int.le_refl _) (by simp) (fun j hj=>by rw [List.getElem?_replicate,if_pos hj]) (by rw [lval_zeros]; simp)
  rw [h1]
  unfold m_wide_short_j1
  obtain ⟨r,h5,h6⟩:=w_trim hF h2 (by rw [h3]; simp; omega)
  rw [h5,Option.bind_some]
  rw [Int.mul_zero,Int.add_zero] at h4 ⊢
  rw [h4] at h6
  exact ⟨r,rfl,h6⟩
end
end Go.Proofs.Ytdcfjndokifgeaa
