/- What the models of the reference of layer 1 give: one limb of a quotient. -/
import Derived.Test.YtjaiebdcmjjnbaaGreatRM2
set_option linter.unusedVariables false
set_option linter.unusedSimpArgs false
namespace Go.Proofs.YtjaiebdcmjjnbaaGreat
open Go Go.SL
theorem lsub_mid {T:Type} (p w s:List T):lsub (p++w++s) (p.length:Int) ((p.length+w.length:Nat):Int)=w:=by
  unfold lsub
  simp only [Int.toNat_natCast]
  rw [List.take_append_of_le_length (by simp),List.take_of_length_le (by simp),List.drop_append_of_le_length (by simp),List.drop_length,List.nil_append]
theorem set_mid {T:Type} (p w s:List T) (i:Nat) (y:T) (hi:i<w.length):(p++w++s).set (p.length+i) y=p++w.set i y++s:=by
  rw [List.append_assoc,List.set_append_right _ _ (by omega),show p.length+i-p.length=i by omega,List.set_append_left _ _ hi,List.append_assoc]
theorem sbd_mid {T:Type} (p w s:List T):sbd (p.length:Int) ((p.length+w.length:Nat):Int) ((p++w++s).length:Int):=by
  unfold sbd; simp only [List.length_append]; omega
section
variable {F:Nat} (hF:4300000000≤F)
include hF
omit hF in
theorem rd_j9 {p s w:List Int} {n i:Nat} (hn:w.length=n+1) (hi:i≤n) (hlw:Lim w) {b P:Int} (hb:b=0∨b=1) (hP:0≤P∧P<18446744073709551616) (hL:(p++w++s).length≤10000) {x:Int} (hx:w[i]? = some x) (rec:List Int→Int→Int→Int→Option (Int × List Int)) :
    zcf F (p.length:Int) ((p.length+(n+1):Nat):Int) (p++w++s) (i:Int) b rec P=rec (p++w.set i ((x-P % 4294967296-b) % 4294967296)++s) (if x<P % 4294967296+b then 1 else 0) (P/4294967296) ((i+1:Nat):Int):=by
  have bx:=hlw.at hx
  have hs:=sbd_mid p w s
  have hm:=lsub_mid p w s
  rw [hn] at hs hm
  unfold zcf zc0
  simp only [List.length_append] at hL
  rw [if_pos hs,hm,ixn hx,Option.bind_some,and32 hP,i64_of (x:=x) (by omega),i64_of (x:=P % 4294967296) (by omega),i64_of (x:=x-P % 4294967296) (by omega),i64_of (x:=x-P % 4294967296-b) (by omega),Option.bind_some,show Int.toNat ((p.length:Int)+(i:Int))=p.length+i by omega,fd32,wS (by omega)]
  by_cases hc:x<P % 4294967296+b
  · rw [if_pos (by omega),if_pos hc,i64_of (by omega),Option.bind_some,u32_id (by omega),set_mid _ _ _ _ _ (by omega),show (x-P % 4294967296-b) % 4294967296=x-P % 4294967296-b+4294967296 by omega]
  · rw [if_neg (by omega),if_neg hc,u32_id (by omega),set_mid _ _ _ _ _ (by omega),show (x-P % 4294967296-b) % 4294967296=x-P % 4294967296-b by omega]
omit hF in
theorem rd_sub {v:List Int} (hv:Lim v) {n:Nat} (hn:v.length=n) {q:Int} (hq:0≤q∧q<4294967296) {p s W:List Int} (hL:p.length+(n+1)+s.length≤10000) :
    ∀ (m N i:Nat) (w:List Int) (c b:Int),i+m=n→m+2≤N→w.length=n+1→Lim w→0≤c∧c<4294967296→(b=0∨b=1)→lval w=lval W-q*lval (v.take i)+c*BP i+b*BP i →
    ∃ w' b',zbj F v (p.length:Int) ((p.length+(n+1):Nat):Int) q N (p++w++s) b c (i:Int)=zcZ F v (p.length:Int) ((p.length+(n+1):Nat):Int) q (p++w'++s) b' 0∧w'.length=n+1∧Lim w'∧(b'=0∨b'=1)∧lval w'=lval W-q*lval v+b'*BP (n+1)
  | 0,N,i,w,c,b,hi,hN,hw,hlw,hc,hb,hval=>by
    obtain ⟨N,rfl⟩:∃ N',N=N'+2:=⟨N-2,by omega⟩
    obtain rfl:i=n:=by omega
    obtain ⟨x,hx⟩:∃ x,w[i]? = some x:=⟨_,List.getElem?_eq_getElem (by omega)⟩
    have bx:=hlw.at hx
    show ∃ w' b',zbi F v (p.length:Int) _ q (zbj F v (p.length:Int) _ q (N+1)) (p++w++s) b c (i:Int)=_∧_
    unfold zbi
    rw [if_pos (by omega),if_neg (by omega),rd_j9 hw (Nat.le_refl _) hlw hb (by omega) (by simp only [List.length_append]; omega) hx]
    show ∃ w' b',zbi F v (p.length:Int) _ q (zbj F v (p.length:Int) _ q N) (p++_++s) _ _ ((i+1:Nat):Int)=_∧_
    unfold zbi
    rw [if_neg (by omega),show c/4294967296=0 by omega,show c % 4294967296=c by omega]
    refine ⟨_,_,rfl,by simpa using hw,hlw.set _ (by omega),by split <;> simp,?_⟩
    have htl:v.take i=v:=List.take_of_length_le (by omega)
    rw [lval_set _ hx,hval,BP_succ,htl]
    have hsx:(x-c-b) % 4294967296=x-c-b+4294967296*(if x<c+b then 1 else 0):=by split <;> omega
    rw [hsx]
    generalize (if x<c+b then (1:Int) else 0)=z
    generalize BP i=r
    grind
  | m+1,N,i,w,c,b,hi,hN,hw,hlw,hc,hb,hval=>by
    obtain ⟨N,rfl⟩:∃ N',N=N'+1:=⟨N-1,by omega⟩
    have hx:w[i]? = some w[i]:=List.getElem?_eq_getElem (by omega)
    have hy:v[i]? = some v[i]:=List.getElem?_eq_getElem (by omega)
    have bx:=hlw.at hx
    have bY:=hv.at hy
    have hm:=mul32 hq bY
    show ∃ w' b',zbi F v (p.length:Int) _ q (zbj F v (p.length:Int) _ q N) (p++w++s) b c (i:Int)=_∧_
    unfold zbi
    rw [if_pos (by omega),if_pos (by omega),ixn hy,Option.bind_some,u64_id (x:=v[i]) (by omega),u64_id (x:=q*v[i]) (by omega),u64_id (x:=c+q*v[i]) (by omega),rd_j9 hw (by omega) hlw hb (by omega) (by simp only [List.length_append]; omega) hx]
    refine rd_sub hv hn hq hL m N (i+1) _ _ _ (by omega) (by omega) (by simpa using hw) (hlw.set _ (by omega)) (by omega) (by split <;> simp) ?_
    rw [lval_set _ hx,hval,lval_take hy,BP_succ]
    clear hx hy hval
    generalize v[i]=y at *
    generalize w[i]=x at *
    have hmod:=Int.mul_ediv_add_emod (c+q*y) 4294967296
    have ht0:0≤(c+q*y) % 4294967296∧(c+q*y) % 4294967296<4294967296:=by omega
    generalize (c+q*y)/4294967296=d at *
    generalize (c+q*y) % 4294967296=t at *
    have hs:(x-t-b) % 4294967296=x-t-b+4294967296*(if x<t+b then 1 else 0):=by split <;> omega
    rw [hs]
    generalize (if x<t+b then (1:Int) else 0)=w
    generalize BP i=p
    have ht:t=c+q*y-4294967296*d:=by omega
    rw [ht]
    grind
omit hF in
theorem rd_add {v:List Int} (hv:Lim v) {n:Nat} (hn:v.length=n) {p s W:List Int} (hL:p.length+(n+1)+s.length≤10000) {q b:Int} (rec:List Int→Int→Int→Int→Option (Int × List Int)) :
    ∀ (m N i:Nat) (w:List Int) (c:Int),i+m=n→m+2≤N→w.length=n+1→Lim w→(c=0∨c=1)→lval w+c*BP i=lval W+lval (v.take i) →
    ∃ w' c',zbh F v (p.length:Int) ((p.length+(n+1):Nat):Int) rec q b N (p++w++s) c (i:Int)=rec (p++w'++s) (IntKind.u64.wrap (q-1)) (IntKind.i64.wrap (b-c')) c'∧w'.length=n+1∧Lim w'∧(c'=0∨c'=1)∧lval w'+c'*BP (n+1)=lval W+lval v
  | 0,N,i,w,c,hi,hN,hw,hlw,hc,hval=>by
    obtain ⟨N,rfl⟩:∃ N',N=N'+2:=⟨N-2,by omega⟩
    obtain rfl:i=n:=by omega
    have hx:w[i]? = some w[i]:=List.getElem?_eq_getElem (by omega)
    have bx:=hlw.at hx
    have hs:=sbd_mid p w s
    have hm:=lsub_mid p w s
    rw [hw] at hs hm
    show ∃ w' c',zbg F v (p.length:Int) _ rec q b (zbh F v (p.length:Int) _ rec q b (N+1)) (p++w++s) c (i:Int)=_∧_
    unfold zbg zce
    rw [if_pos (by omega),if_pos hs,hm,ixn hx,Option.bind_some,u64_id (x:=w[i]) (by omega),u64_id (x:=c+w[i]) (by omega),Option.bind_some,if_neg (by omega),show Int.toNat ((p.length:Int)+(i:Int))=p.length+i by omega,fd32,wS (by omega),u32w,set_mid _ _ _ _ _ (by omega)]
    show ∃ w' c',zbg F v (p.length:Int) _ rec q b (zbh F v (p.length:Int) _ rec q b N) (p++_++s) _ ((i+1:Nat):Int)=_∧_
    unfold zbg zd3
    rw [if_neg (by omega),i64_of (x:=(c+w[i])/4294967296) (by omega)]
    refine ⟨_,_,rfl,by simpa using hw,hlw.set _ (by omega),by omega,?_⟩
    rw [← hn,List.take_length,hn] at hval
    rw [lval_set _ hx,← hval,BP_succ]
    have hmod:=Int.mul_ediv_add_emod (c+w[i]) 4294967296
    generalize (c+w[i])/4294967296=d at *
    generalize (c+w[i]) % 4294967296=t at *
    generalize BP i=r
    generalize w[i]=x at *
    have ht:t=c+x-4294967296*d:=by omega
    rw [ht]
    grind
  | m+1,N,i,w,c,hi,hN,hw,hlw,hc,hval=>by
    obtain ⟨N,rfl⟩:∃ N',N=N'+1:=⟨N-1,by omega⟩
    have hx:w[i]? = some w[i]:=List.getElem?_eq_getElem (by omega)
    have hy:v[i]? = some v[i]:=List.getElem?_eq_getElem (by omega)
    have bx:=hlw.at hx
    have bY:=hv.at hy
    have hs:=sbd_mid p w s
    have hm:=lsub_mid p w s
    rw [hw] at hs hm
    show ∃ w' c',zbg F v (p.length:Int) _ rec q b (zbh F v (p.length:Int) _ rec q b N) (p++w++s) c (i:Int)=_∧_
    unfold zbg zce
    rw [if_pos (by omega),if_pos hs,hm,ixn hx,Option.bind_some,u64_id (x:=w[i]) (by omega),u64_id (x:=c+w[i]) (by omega),Option.bind_some,if_pos (by omega),ixn hy,Option.bind_some,u64_id (x:=v[i]) (by omega),u64_id (x:=c+w[i]+v[i]) (by omega),show Int.toNat ((p.length:Int)+(i:Int))=p.length+i by omega,fd32,wS (by omega),u32w,set_mid _ _ _ _ _ (by omega)]
    refine rd_add hv hn hL rec m N (i+1) _ _ (by omega) (by omega) (by simpa using hw) (hlw.set _ (by omega)) (by omega) ?_
    rw [lval_set _ hx,lval_take hy,BP_succ]
    clear hx hy
    generalize v[i]=y at *
    generalize w[i]=x at *
    have hmod:=Int.mul_ediv_add_emod (c+x+y) 4294967296
    generalize (c+x+y)/4294967296=d at *
    generalize (c+x+y) % 4294967296=t at *
    generalize BP i=r at *
    have ht:t=c+x+y-4294967296*d:=by omega
    rw [ht]
    grind
theorem rd_back {v:List Int} (hv:Lim v) {n:Nat} (hn:v.length=n) {p s W:List Int} (hL:p.length+(n+1)+s.length≤10000) (hW:Lim W) (hv0:0<lval v) :
    ∀ (N:Nat) (q:Int) (w:List Int) (b z:Int),q-lval W/lval v<(N:Int)→lval W/lval v≤q→q<4294967296→w.length=n+1→Lim w→(b=0∨b=1)→lval w=lval W-q*lval v+b*BP (n+1) →
    ∃ w',zbv F v (p.length:Int) ((p.length+(n+1):Nat):Int) N (p++w++s) q b z=some (lval W/lval v,p++w'++s)∧w'.length=n+1∧Lim w'∧lval w'=lval W % lval v
  | 0,q,w,b,z,h,h1,_,_,_,_,_=>by omega
  | N+1,q,w,b,z,hN,hQ,hq,hw,hlw,hb,hval=>by
    have hW0:=lval_nonneg hW
    have hq0:0≤lval W/lval v:=Int.ediv_nonneg hW0 (by omega)
    have h1:=lval_lt hlw
    have h2:=lval_nonneg hlw
    rw [hw] at h1
    have hiff:q*lval v≤lval W↔q≤lval W/lval v:=(Int.le_ediv_iff_mul_le hv0).symm
    show ∃ w',zcY F v (p.length:Int) _ (zbv F v (p.length:Int) _ N) (p++w++s) q b z=_∧_
    unfold zcY zd2
    rcases hb with rfl | rfl
    · rw [if_neg (by omega),u32_id (by omega)]
      have hqQ:q=lval W/lval v:=by have:=hiff.1 (by omega); omega
      refine ⟨w,by rw [hqQ],hw,hlw,?_⟩
      rw [hval,hqQ,Int.emod_def,Int.mul_comm]; omega
    · rw [if_pos (by omega)]
      have hqQ:¬ q≤lval W/lval v:=fun h=>by have:=hiff.2 h; omega
      obtain ⟨w',c',g1,g2,g3,g4,g5⟩:=rd_add (F:=F) hv hn (p:=p) (s:=s) (W:=w) hL (q:=q) (b:=1) (zbv F v (p.length:Int) ((p.length+(n+1):Nat):Int) N) n F 0 w 0 (by omega) (by omega) hw hlw (.inl rfl) (by simp [lval])
      rw [show ((0:Nat):Int)=0 from rfl] at g1
      rw [g1,u64_id (by omega),i64_of (by omega)]
      refine rd_back hv hn hL hW hv0 N (q-1) w' (1-c') c' (by omega) (by omega) (by omega) g2 g3 (by omega) ?_
      rw [hval] at g5
      rw [Int.sub_mul,Int.sub_mul]
      omega
theorem rd_j10 {v:List Int} (hv:Lim v) {n:Nat} (hn:v.length=n) {p s W:List Int} (hL:p.length+(n+1)+s.length≤10000) (hW:Lim W) (hWl:W.length=n+1) (hv0:0<lval v) {q:Int} (hQ:lval W/lval v≤q) (hq:q<4294967296) :
    ∃ w',zb0 F v (p.length:Int) ((p.length+(n+1):Nat):Int) (p++W++s) q=some (lval W/lval v,p++w'++s)∧w'.length=n+1∧Lim w'∧lval w'=lval W % lval v:=by
  have hq0:0≤lval W/lval v:=Int.ediv_nonneg (lval_nonneg hW) (by omega)
  unfold zb0
  obtain ⟨w',b',g1,g2,g3,g4,g5⟩:=rd_sub (F:=F) hv hn (q:=q) (by omega) (p:=p) (s:=s) (W:=W) hL n F 0 W 0 0 (by omega) (by omega) hWl hW (by omega) (.inl rfl) (by simp [lval])
  rw [show ((0:Nat):Int)=0 from rfl] at g1
  rw [g1]
  unfold zcZ
  exact rd_back hF hv hn hL hW hv0 F q w' b' 0 (by omega) hQ hq g2 g3 g4 g5
theorem rd_guess {v:List Int} (hv:Lim v) {k:Nat} (hn:v.length=k+2) {p s W:List Int} (hL:p.length+(k+2+1)+s.length≤10000) (hW:Lim W) (hWl:W.length=k+2+1) (hv0:0<lval v) (hlt:lval W<4294967296*lval v)
    {v2 top w2 X:Int} (hv2:v[k]? = some v2) (hw2:W[k]? = some w2) (btop:0<top∧top<4294967296) (hX:X<18446744073709551616)
    (hV:BP k*(v2+4294967296*top)≤lval v) (hWW:lval W<BP k*(w2+4294967296*X+1)) :
    ∀ (N:Nat) (q r:Int),q-lval W/lval v<(N:Int)→lval W/lval v≤q→0≤r→q*top+r=X →
    ∃ w',za8 F v (p++W++s) (p.length:Int) ((p.length+(k+2+1):Nat):Int) top N q r=some (lval W/lval v,p++w'++s)∧w'.length=k+2+1∧Lim w'∧lval w'=lval W % lval v
  | 0,q,r,h,h1,_,_=>by omega
  | N+1,q,r,hN,hQ,hr,hqr=>by
    have hW0:=lval_nonneg hW
    have hq0:0≤lval W/lval v:=Int.ediv_nonneg hW0 (by omega)
    have hqB:lval W/lval v<4294967296:=Int.ediv_lt_of_lt_mul hv0 hlt
    have b2:=hv.at hv2
    have bw:=hW.at hw2
    have hqt:0≤q*top:=Int.mul_nonneg (by omega) (by omega)
    have hm:=lsub_mid p W s
    rw [hWl] at hm
    have true_:lval W/lval v<q→∃ w',za7 F r top q v (p.length:Int) ((p.length+(k+2+1):Nat):Int) (p++W++s) (za8 F v (p++W++s) (p.length:Int) ((p.length+(k+2+1):Nat):Int) top N) true=some (lval W/lval v,p++w'++s)∧w'.length=k+2+1∧Lim w'∧lval w'=lval W % lval v:=fun hlt'=>by
      unfold za7
      have h1:1*top≤q*top:=Int.mul_le_mul_of_nonneg_right (by omega) (by omega)
      have h2:q≤q*top:=by
        have:q*1≤q*top:=Int.mul_le_mul_of_nonneg_left (by omega) (by omega)
        omega
      rw [if_pos rfl,u64_id (x:=top) (by omega),u64_id (x:=r+top) (by omega),Option.bind_some,u64_id (x:=q-1) (by omega)]
      split
      · rename_i hc
        simp only [Bool.and_eq_true,decide_eq_true_eq] at hc
        exact rd_j10 hF hv hn hL hW hWl hv0 (by omega) hc.2
      · exact rd_guess hv hn hL hW hWl hv0 hlt hv2 hw2 btop hX hV hWW N (q-1) (r+top) (by omega) (by omega) (by omega) (by rw [Int.sub_mul]; omega)
    have false_:q<4294967296→∃ w',za7 F r top q v (p.length:Int) ((p.length+(k+2+1):Nat):Int) (p++W++s) (za8 F v (p++W++s) (p.length:Int) ((p.length+(k+2+1):Nat):Int) top N) false=some (lval W/lval v,p++w'++s)∧w'.length=k+2+1∧Lim w'∧lval w'=lval W % lval v:=fun hq=>by
      unfold za7
      rw [if_neg (by decide)]
      exact rd_j10 hF hv hn hL hW hWl hv0 hQ hq
    show ∃ w',zcI F v (p++W++s) (p.length:Int) _ top (za8 F v (p++W++s) (p.length:Int) _ top N) q r=_∧_
    unfold zcI
    have ek:IntKind.i64.wrap ((v.length:Int)-2)=(k:Int):=by rw [i64_of (by omega)]; omega
    rw [ek,hm,ixn hv2,Option.bind_some,ixn hw2,Option.bind_some,]
    by_cases h1:q≥4294967296
    · rw [if_pos h1]; exact true_ (by omega)
    · rw [if_neg h1]
      by_cases h2:r<4294967296
      · rw [if_pos h2,Option.bind_some,Option.bind_some]
        have hm2:=mul32 (a:=q) (b:=v2) (by omega) b2
        rw [u64_id (x:=v2) (by omega),u64_id (x:=q*v2) (by omega),show ((2:Int)^32)=4294967296 by decide,u64_id (x:=r*4294967296) (by omega),u64_id (x:=w2) (by omega),u64_id (x:=r*4294967296+w2) (by omega)]
        by_cases h3:q*v2>r*4294967296+w2
        · rw [decide_eq_true h3]
          refine true_ ?_
          rcases Int.lt_or_le (lval W/lval v) q with h4 | h4
          · exact h4
          · exfalso
            have h5:q*lval v≤lval W:=(Int.le_ediv_iff_mul_le hv0).1 h4
            have h6:q*(BP k*(v2+4294967296*top))≤q*lval v:=Int.mul_le_mul_of_nonneg_left hV (by omega)
            have h7:BP k*(q*v2+4294967296*(q*top))<BP k*(w2+4294967296*X+1):=by
              have:q*(BP k*(v2+4294967296*top))=BP k*(q*v2+4294967296*(q*top)):=by generalize BP k=e; grind
              omega
            have h8:=Int.lt_of_mul_lt_mul_left h7 (by have:=BP_pos k; omega)
            omega
        · rw [decide_eq_false h3]; exact false_ (by omega)
      · rw [if_neg h2]; exact false_ (by omega)
theorem r_digit {v:List Int} (hv:Lim v) {k:Nat} (hn:v.length=k+2) {p s W:List Int} (hL:p.length+(k+2+1)+s.length≤10000) (hW:Lim W) (hWl:W.length=k+2+1) (hlt:lval W<4294967296*lval v) {top:Int} (htop:v[k+1]? = some top) (btop:2147483648≤top) :
    ∃ w',zd4 F (p++W++s) (p.length:Int) ((p.length+(k+2+1):Nat):Int) v=some (lval W/lval v,p++w'++s)∧w'.length=k+2+1∧Lim w'∧lval w'=lval W % lval v:=by
  have bt:=hv.at htop
  have hv2:v[k]? = some v[k]:=List.getElem?_eq_getElem (by omega)
  have b2:=hv.at hv2
  obtain ⟨w2,e0⟩:∃ x,W[k]? = some x:=⟨_,List.getElem?_eq_getElem (by omega)⟩
  obtain ⟨w1,e1⟩:∃ x,W[k+1]? = some x:=⟨_,List.getElem?_eq_getElem (by omega)⟩
  obtain ⟨w0,e2⟩:∃ x,W[k+2]? = some x:=⟨_,List.getElem?_eq_getElem (by omega)⟩
  have c0:=hW.at e0; have c1:=hW.at e1; have c2:=hW.at e2
  have hs:=sbd_mid p W s
  have hm:=lsub_mid p W s
  rw [hWl] at hs hm
  have g1:=lval_take hv2
  have g2:=lval_take htop
  rw [show k+1+1=v.length by omega,List.take_length,g1,BP_succ] at g2
  have g3:=lval_nonneg (hv.take k)
  have g4:=lval_lt (hv.take k)
  have f1:=lval_take e0
  have f2:=lval_take e1
  have f3:=lval_take e2
  have htl:W.take (k+2+1)=W:=List.take_of_length_le (by omega)
  rw [htl,show k+2=k+1+1 from rfl,f2,f1] at f3
  simp only [BP_succ] at f3
  have f4:=lval_nonneg (hW.take k)
  have f5:=lval_lt (hW.take k)
  rw [List.length_take,Nat.min_eq_left (by omega)] at g4 f5
  have hP:=BP_pos k
  unfold zd4
  rw [if_pos hs,hm,hn,ixn e2,Option.bind_some,show IntKind.i64.wrap (((k+2:Nat):Int)-1)=((k+1:Nat):Int) by rw [i64_of (by omega)]; omega,ixn e1,Option.bind_some,show ((2:Int)^32)=4294967296 by decide]
  clear f1 f2 g1
  rw [u64_id (x:=w0) (by omega),u64_id (x:=w0*4294967296) (by omega),u64_id (x:=w1) (by omega),u64_id (x:=w0*4294967296+w1) (by omega),Option.bind_some,ixn htop,Option.bind_some,u64_id (x:=top) (by omega),if_pos (by omega),if_pos (by omega),Option.bind_some,Int.tdiv_eq_ediv_of_nonneg (by omega),Int.tmod_eq_emod_of_nonneg (by omega)]
  have hX:0≤w0*4294967296+w1∧w0*4294967296+w1<18446744073709551616:=by omega
  have hWX:lval W=lval (W.take k)+BP k*(w2+4294967296*(w0*4294967296+w1)):=by rw [f3]; generalize BP k=e; grind
  have hVX:lval v=lval (v.take k)+BP k*(v[k]+4294967296*top):=by rw [g2]; generalize BP k=e; grind
  clear f3 g2 e1 e2 c1 c2
  generalize w0*4294967296+w1=X at *
  have hdm:=Int.mul_ediv_add_emod X top
  have hr0:=Int.emod_nonneg X (show top≠0 by omega)
  have hr1:=Int.emod_lt_of_pos X (show 0<top by omega)
  have hd0:0≤X/top:=Int.ediv_nonneg (by omega) (by omega)
  have hdle:X/top≤X:=Int.ediv_le_self _ (by omega)
  rw [u64_id (x:=X/top) (by omega),Option.bind_some]
  have hVt:BP k*1≤BP k*(v[k]+4294967296*top):=Int.mul_le_mul_of_nonneg_left (by omega) (by omega)
  have hv0:0<lval v:=by omega
  have hW0:=lval_nonneg hW
  have hq0:0≤lval W/lval v:=Int.ediv_nonneg hW0 (by omega)
  have hXB:w2+4294967296*X<4294967296*(v[k]+4294967296*top+1):=by
    refine Int.lt_of_mul_lt_mul_left (a:=BP k) ?_ (by omega)
    have:BP k*(4294967296*(v[k]+4294967296*top+1))=4294967296*(BP k*(v[k]+4294967296*top)+BP k):=by generalize BP k=e; generalize v[k]=z; grind
    omega
  have hup:X/top<4294967296+3:=Int.ediv_lt_of_lt_mul (by omega) (by omega)
  have hge:lval W/lval v≤X/top:=by
    refine (Int.le_ediv_iff_mul_le (by omega)).2 ?_
    have h5:lval W/lval v*lval v≤lval W:=Int.ediv_mul_le _ (by omega)
    have h6:lval W/lval v*(BP k*(4294967296*top))≤lval W/lval v*lval v:=Int.mul_le_mul_of_nonneg_left (by
      rw [hVX,Int.mul_add]
      have:0≤BP k*v[k]:=Int.mul_nonneg (by omega) b2.1
      omega) hq0
    have h7:BP k*(4294967296*(lval W/lval v*top))<BP k*(w2+4294967296*X+1):=by
      have e:BP k*(4294967296*(lval W/lval v*top))=lval W/lval v*(BP k*(4294967296*top)):=by generalize BP k=e; generalize lval W/lval v=d; grind
      rw [e,Int.mul_add (BP k) _ 1]
      omega
    have h8:=Int.lt_of_mul_lt_mul_left h7 (by omega)
    omega
  refine rd_guess hF hv hn hL hW hWl hv0 hlt hv2 e0 (by omega) hX.2 (by omega) (by rw [hWX,Int.mul_add (BP k) _ 1]; omega) F _ _ (by omega) hge hr0 (by rw [Int.mul_comm]; exact hdm)
end
end Go.Proofs.YtjaiebdcmjjnbaaGreat
