/- Part of a proof: laws and walks. -/
import Derived.Test.YtbccfconmcgfgaaGreatTab
import Derived.Laws.Slices
import Derived.MapKept
import Derived.RangeFuncOwn
import Derived.RangeFuncLeaves
import Derived.ArgAppend
import Derived.RecoverIn
import Derived.Laws.RangeString
set_option linter.unusedVariables false
set_option linter.unusedSimpArgs false
namespace Go.SL
open Go
def vsub (sz:Nat) (v:Value) (a b:Int):Value :=
  match v with
  | .slice A _ c=>.slice (if c=a.toNat then A else A.map (·.add (a.toNat*sz))) (b.toNat-a.toNat) (c-a.toNat)
  | _=>undef
def lsub {T:Type} (l:List T) (a b:Int):List T:=(l.take b.toNat).drop a.toNat
def sbd (a b n:Int):Prop:=0≤a∧a≤b∧b≤n
instance (a b n:Int):Decidable (sbd a b n):=by unfold sbd; infer_instance
section
variable {T:Type} {enc:T→List Value} {sz:Nat} {l:List T} {h:Hp} {v:Value} {a b:Int} {x0:T}
theorem uF (he:∀ x,(enc x).length=sz):∀ (l:List T) (k:Nat),encs enc (l.take k)=(encs enc l).take (k*sz)
  | [],k=>by simp [encs]
  | x::t,0=>by simp [encs]
  | x::t,k+1=>by
    have ih:=uF he t k
    simp only [encs] at ih
    simp only [encs,List.take_succ_cons,List.flatMap_cons,ih]
    have h1:(k+1)*sz=sz+k*sz:=by rw [Nat.add_mul]; omega
    rw [List.take_append,he,h1,List.take_of_length_le (l:=enc x) (by rw [he]; omega),Nat.add_sub_cancel_left]
theorem yc (he:∀ x,(enc x).length=sz):∀ (l:List T) (k:Nat),encs enc (l.drop k)=(encs enc l).drop (k*sz)
  | [],k=>by simp [encs]
  | x::t,0=>by simp
  | x::t,k+1=>by
    have ih:=yc he t k
    simp only [encs] at ih
    simp only [encs,List.drop_succ_cons,List.flatMap_cons,ih]
    have h1:(k+1)*sz=sz+k*sz:=by rw [Nat.add_mul]; omega
    rw [List.drop_append,he,h1,List.drop_of_length_le (l:=enc x) (by rw [he]; omega),Nat.add_sub_cancel_left,List.nil_append]
theorem oq (hb:sbd a b (l.length:Int)):(lsub l a b).length=b.toNat-a.toNat:=by
  unfold lsub; obtain ⟨h1,h2,h3⟩:=hb; simp; omega
theorem aEg (hb:sbd a b (l.length:Int)) {j:Nat} (hj:j<b.toNat-a.toNat):(lsub l a b)[j]? = l[a.toNat+j]?:=by
  unfold lsub
  rw [List.getElem?_drop,List.getElem?_take,if_pos (by omega)]
theorem aV.sub (hr:aV h sz enc v l) (he:∀ x,(enc x).length=sz) (hb:sbd a b (l.length:Int)):aV h sz enc (vsub sz v a b) (lsub l a b):=by
  obtain ⟨⟨h1,h2,A,c,rfl,h3⟩,hfit⟩:=hr
  have hfit:l.length≤c:=hfit
  have hl:=oq hb
  obtain ⟨b1,b2,b3⟩:=hb
  refine ⟨⟨by rw [ig he],by omega,?_⟩,?_⟩
  · refine ⟨_,_,by rw [hl]; rfl,fun hn=>?_⟩
    rw [hl] at hn
    obtain ⟨p,cur,e,z,rfl,hs,hg,hc⟩:=h3 (by omega)
    refine ⟨p.add (a.toNat*sz),cur,e,z,?_,?_,?_,?_⟩
    · rw [if_neg (by omega)]; rfl
    · obtain ⟨g,o,s⟩:=p
      simp only at hs; subst hs; simp [gX]
    · obtain ⟨g,o,s⟩:=p
      simp only at hs; subst hs; simpa [gX] using hg
    · intro j u hu
      obtain ⟨g,o,s⟩:=p
      simp only at hs; subst hs
      simp only [gX]
      rw [Nat.add_assoc]
      apply hc
      unfold lsub at hu
      rw [yc he,uF he,List.getElem?_drop,List.getElem?_take] at hu
      split at hu
      · exact hu
      · cases hu
  · show b.toNat-a.toNat≤c-a.toNat
    omega
theorem aET (hr:aV h sz enc v l) (hl:0<(lsub l a b).length) (hb:sbd a b (l.length:Int)):(vsub sz v a b).ownBlock=v.ownBlock:=by
  obtain ⟨⟨h1,h2,A,c,rfl,h3⟩,hfit⟩:=hr
  have hfit:l.length≤c:=hfit
  rw [oq hb] at hl
  obtain ⟨b1,b2,b3⟩:=hb
  obtain ⟨p,cur,e,z,rfl,hs,hg,hc⟩:=h3 (by omega)
  obtain ⟨g,o,s⟩:=p
  simp only at hs; subst hs
  unfold vsub
  simp only
  rw [if_neg (by omega)]
  simp [Value.ownBlock,gX]
theorem oQ.sub {e:TypeId} (hs:oQ h e sz v l.length (encs enc l)) (he:∀ x,(enc x).length=sz) (hb:sbd 0 b (l.length:Int)):oQ h e sz (vsub sz v 0 b) (lsub l 0 b).length (encs enc (lsub l 0 b)):=by
  have hl:=oq hb
  obtain ⟨b1,b2,b3⟩:=hb
  refine ⟨by rw [ig he],?_⟩
  rw [hl]
  rcases hs.2 with ⟨rfl,h0⟩ | ⟨g,cap,cur,rfl,hg,h1,h2,h3,h4⟩
  · have:b.toNat=0:=by omega
    refine .inl ⟨?_,by simp; omega⟩
    simp [vsub,this]
  · refine .inr ⟨g,cap,cur,?_,hg,by simp; omega,h2,h3,?_⟩
    · simp [vsub,gX]
    · unfold lsub
      simp only [Int.toNat_zero,List.drop_zero,Nat.sub_zero]
      rw [uF he,← h4,List.take_take]
      congr 1
      have:b.toNat*sz≤l.length*sz:=Nat.mul_le_mul_right _ (by omega)
      omega
end
section
variable {T:Type} {enc:T→List Value} {sz:Nat} {l:List T} {x0:T}
variable {P:Program} {w w0:World} {n:Nat} {ds:List Deferred} {L:List (Nat × Value)} {ty t e:TypeId} {x y lo hi:Operand} {v:Value} {X:Nat→Prop} {B M M':List Asr} {p q:Int} {k k':IntKind} {j:Nat}
theorem aBB (he:jC P t=some e) (hs:dB P e=some sz) (hr:aV (hp w) sz enc v l) (lo' hi':Option Value)
    (hb:sbd p q (l.length:Int)) (hlo:lo'=none∧p=0∨∃ k,lo'=some (.int k p)) (hhi:hi'=none∧q=l.length∨∃ k,hi'=some (.int k q)) :
    (Instr.sliceAt t v lo' hi' none).run P w=.ok (vsub sz v p q) w:=by
  obtain ⟨⟨h1,h2,A,c,rfl,h3⟩,hfit⟩:=hr
  have hfit:l.length≤c:=hfit
  obtain ⟨b1,b2,b3⟩:=hb
  have ht:=jh he
  have ht:P.underlying t=some (.slice (P.elem t)):=by rw [ht]; simp [Program.elem,ht]
  have hel:P.elem t=e:=by
    have:=jh he
    rw [this] at ht
    simpa using ht.symm
  rw [run_sliceAt_slice _ _ _ _ _ _ ht]
  have hsz:(sizeOf (P.elem t)).run P w=.ok sz w:=by rw [hel]; exact run_sizeOf hs
  rcases hlo with ⟨rfl,rfl⟩ | ⟨k,rfl⟩ <;> rcases hhi with ⟨rfl,rfl⟩ | ⟨k',rfl⟩
  · rw [run_slice_all _ _ _ _ _ ht,hsz]; simp [sliced,vsub,Result.andThen]
  · rw [run_slice_h _ _ _ _ _ ht _ _ b2 (by omega),hsz]; simp [sliced,vsub,Result.andThen]
  · rw [run_slice_l _ _ _ _ _ ht _ _ b1 (by omega),hsz]; simp [sliced,vsub,Result.andThen]
  · rw [run_slice_lh _ _ _ _ _ ht _ _ _ _ b1 b2 (by omega),hsz]; simp [sliced,vsub,Result.andThen]
theorem aA.vv (he:jC P t=some e) (hs:dB P e=some sz) (hx:ev L x=some v) (hh:ev L hi=some (.int k q)) (hr:aV (hp w) sz enc v l) (hb:sbd 0 q (l.length:Int)) :
    aA P n ds L (.slice t x none (some hi) none) ty w (vsub sz v 0 q) w:=fun a d pos af g hf=>by
  simp only [execOp,hf.eval hx,Option.map_some,Option.map_none,hf.eval hh]
  exact mU (aBB he hs hr _ _ hb (.inl ⟨rfl,rfl⟩) (.inr ⟨k,rfl⟩))
theorem aA.aCV (he:jC P t=some e) (hs:dB P e=some sz) (hx:ev L x=some v) (hh:ev L lo=some (.int k p)) (hr:aV (hp w) sz enc v l) (hb:sbd p (l.length:Int) (l.length:Int)) :
    aA P n ds L (.slice t x (some lo) none none) ty w (vsub sz v p (l.length:Int)) w:=fun a d pos af g hf=>by
  simp only [execOp,hf.eval hx,Option.map_some,Option.map_none,hf.eval hh]
  exact mU (aBB he hs hr _ _ hb (.inr ⟨k,rfl⟩) (.inl ⟨rfl,rfl⟩))
theorem aA.aCe (he:jC P t=some e) (hs:dB P e=some sz) (hx:ev L x=some v) (hl:ev L lo=some (.int k p)) (hh:ev L hi=some (.int k' q)) (hr:aV (hp w) sz enc v l) (hb:sbd p q (l.length:Int)) :
    aA P n ds L (.slice t x (some lo) (some hi) none) ty w (vsub sz v p q) w:=fun a d pos af g hf=>by
  simp only [execOp,hf.eval hx,Option.map_some,Option.map_none,hf.eval hl,hf.eval hh]
  exact mU (aBB he hs hr _ _ hb (.inr ⟨k,rfl⟩) (.inr ⟨k',rfl⟩))
theorem St.aF2 (hS:St w0 w X B M) (hM:M[j]? = some (slE e sz enc v l)) (he:∀ x,(enc x).length=sz) (hb:sbd 0 q (l.length:Int)) (hM':M.set j (slE e sz enc (vsub sz v 0 q) (lsub l 0 q))=M'):St w0 w X B M':=by
  subst hM'
  refine hS.conv hM (fun h=>oQ.sub h he hb) (fun k hk=>?_)
  have hk:(vsub sz v 0 q).ownBlock=some k:=hk
  show v.ownBlock=some k
  rcases (hS.slS hM).2 with ⟨rfl,h0⟩ | ⟨g,cap,cur,rfl,_⟩
  · simp [vsub,Value.ownBlock] at hk
  · rw [← hk]; simp [vsub,Value.ownBlock,gX]
end
end Go.SL
namespace Go.SL
open Go
section
variable {T:Type} {enc:T→List Value} {sz:Nat} {l m:List T} {h:Hp} {v u:Value} {a b p q:Int} {x0:T} {k:Nat}
theorem aE0 {c:Nat} (hr:aV h sz enc v l) (hb:sbd a b (l.length:Int)) (hl:0<(lsub l a b).length):ix (vsub sz v a b) c=ix v (a.toNat*sz+c):=by
  obtain ⟨⟨h1,h2,A,cc,rfl,h3⟩,hfit⟩:=hr
  have hfit:l.length≤cc:=hfit
  rw [oq hb] at hl
  obtain ⟨b1,b2,b3⟩:=hb
  obtain ⟨g,cur,e,z,rfl,hs,hg,hc⟩:=h3 (by omega)
  obtain ⟨g,o,s⟩:=g
  simp only at hs; subst hs
  unfold vsub ix
  simp only
  rw [if_neg (by omega)]
  simp [gX,Nat.add_assoc]
theorem lS (hb:sbd a b (l.length:Int)) (hi:idx (lsub l a b) p=some x0):idx l (a+p)=some x0:=by
  obtain ⟨h1,h2,h3⟩:=uL hi
  rw [oq hb] at h2
  rw [aEg hb h2] at h3
  obtain ⟨b1,b2,b3⟩:=hb
  unfold idx
  rw [if_pos (by omega)]
  rw [← h3]; congr 1; omega
end
section
variable {T:Type} {enc:T→List Value} {sz:Nat} {l m:List T} {x0:T}
variable {r:Option Nat} {P:Program} {Q:Exit→Act→World→Prop} {ops:Array Oper} {i:Nat} {rest:List Nat} {a:Act} {w w0 w':World} {n:Nat} {ds:List Deferred} {L:List (Nat × Value)}
  {d:Nat} {op:Op} {ty t e:TypeId} {pos:String} {af:Array Edge} {v u z:Value} {X:Nat→Prop} {B M M':List Asr} {x y:Operand} {b o j:Nat} {k:IntKind} {p p1 p2:Int} {q q':Asr}
theorem aA.ixW (he:jC P t=some e) (hs:dB P e=some sz) (hx:ev L x=some (vsub sz v p1 p2)) (hy:ev L y=some (.int k p)) (hr:aV (hp w) sz enc v l) (henc:∀ x,(enc x).length=sz) (hb:sbd p1 p2 (l.length:Int)) (hi:idx (lsub l p1 p2) p=some x0) :
    aA P n ds L (.indexAddr t x y) ty w (ix v (Int.toNat (p1+p)*sz)) w:=by
  have h1:=aA.ixE (P:=P) (n:=n) (ds:=ds) (ty:=ty) he hs hx hy (hr.sub henc hb) hi
  obtain ⟨h2,h3,_⟩:=uL hi
  rw [aE0 hr hb (by omega)] at h1
  have h4:p1.toNat*sz+p.toNat*sz=Int.toNat (p1+p)*sz:=by
    rw [← Nat.add_mul]; congr 1
    obtain ⟨b1,b2,b3⟩:=hb
    omega
  rwa [h4] at h1
theorem St.aDd (h:oQ (hp w) e sz v l.length (encs enc l)) (hB:∀ p ∈ B,Lent w p) (ha:∀ p ∈ B,∀ k,p.fp k→¬ (slE e sz enc v l).fp k):St w w (fun k=>v.ownBlock=some k) B [slE e sz enc v l] :=
  ⟨rfl,rfl,rfl,Nat.le_refl _,fun _ _ _=>rfl,⟨⟨h,fun b hb=>⟨((uU.1 h).lt b hb).2,.inl hb⟩,by simp⟩,trivial⟩,fun p hp=>⟨(hB p hp).1,fun k hk=>⟨(hB p hp).2 k hk,ha p hp k hk⟩⟩⟩
theorem nW:∀ p ∈ ([]:List Asr),∀ k,p.fp k→¬ q.fp k:=by simp
theorem kF (h1:∀ k,q'.fp k→¬ q.fp k) (h2:∀ p ∈ B,∀ k,p.fp k→¬ q.fp k):∀ p ∈ q'::B,∀ k,p.fp k→¬ q.fp k:=fun p hp=>by
  rcases List.mem_cons.1 hp with rfl | hp
  · exact h1
  · exact h2 p hp
theorem St.xA (hS:St w0 w X B M) (hi:M[i]? = some q) (hj:M[j]? = some q') (hne:j≠i):∀ k,q'.fp k→¬ q.fp k:=fun k h1=>hS.sep.disj hj hi hne k h1
theorem aAR (h:∀ k,(slE e sz enc v l).fp k→¬ q.fp k):∀ k,(rdE sz enc v l).fp k→¬ q.fp k:=fun k hk=>h k hk.2
theorem aF4 (hr:aV (hp w) sz enc v l) (hb:sbd p1 p2 (l.length:Int)) (h:∀ k,(rdE sz enc v l).fp k→¬ q.fp k):∀ k,(rdE sz enc (vsub sz v p1 p2) (lsub l p1 p2)).fp k→¬ q.fp k:=fun k hk=>h k ⟨by
  have h1:0<(lsub l p1 p2).length:=hk.1
  rw [oq hb] at h1
  obtain ⟨b1,b2,b3⟩:=hb
  omega,by
  have h1:0<(lsub l p1 p2).length:=hk.1
  have h2:(vsub sz v p1 p2).ownBlock=some k:=hk.2
  rwa [aET hr h1 hb] at h2⟩
theorem O.aBu {by_:Nat} {k1 k2:IntKind} {p c:Int} {x0:T} (hf:Fr a n ds L) (hS:St w0 w X B M) (ho:ops[i]? = some ⟨some d,.makeSlice t x y,ty,pos,af,none⟩) (hd:Nat.blt d n=true)
    (he:jC P t=some e) (hs:dB P e=some sz) (hby:pu P e=some by_) (hz:iQ P e=some z) (h0:Nat.blt 0 sz=true) (hx:ev L x=some (.int k1 p)) (hy:ev L y=some (.int k2 c)) (hp:0≤p∧p≤c∧c≤4294967296) (hb:Nat.ble by_ 32000=true) (henc:∀ x,(enc x).length=sz) (hz0:z.cells.toList=enc x0)
    (k:∀ v w' a',St w0 w' X B (slE e sz enc v (List.replicate p.toNat x0)::M)→Fr a' n ds ((d,v)::L)→O r P ops Q rest a' w'):O r P ops Q (i::rest) a w:=by
  have hb:=Nat.le_of_ble_eq_true hb
  have h9:by_*c.toNat≤140737488355328:=by
    refine Nat.le_trans (Nat.mul_le_mul hb (show c.toNat≤4294967296 by omega)) ?_
    decide
  unfold dB at hs
  unfold pu at hby
  unfold iQ at hz
  obtain ⟨inf,hi,hsz⟩:=Option.map_eq_some_iff.1 hs
  rw [hi] at hby hz
  simp only [Option.map_some,Option.some.injEq,Option.bind_some] at hby hz
  subst hsz
  subst hby
  have hbb:(inf.bytes:Int)*c≤281474976710656:=by
    have h:((inf.bytes*c.toNat:Nat):Int)≤281474976710656:=by omega
    rw [Int.natCast_mul] at h
    have:((c.toNat:Nat):Int)=c:=by omega
    rwa [this] at h
  have hr:=run_make (P:=P) w t e inf z (jh he) hi hz k1 k2 p c (by omega) (by omega) hbb (by omega)
  refine O.val (w':=w.alloc (.cells (madeCells z.cells (c.toNat*inf.size)) e)) (v:=.slice (some ⟨w.heap.size,0,none⟩) p.toNat c.toNat) hf ho rfl hd ?_ (fun a' hf'=>k _ _ a' ?_ hf')
  · intro a d pos af g hf
    simp only [execOp,hf.eval hx,hf.eval hy]
    exact mU hr
  · refine hS.push rfl rfl rfl (by simp) (fun b hb=>by first | exact heap_alloc_old w _ b hb | exact heap_alloc_old w _ hb) ?_ (fun b hb=>?_)
    · have hlen:(madeCells z.cells (c.toNat*inf.size)).size=c.toNat*inf.size:=by simp [madeCells]
      refine ⟨by rw [ig henc],.inr ⟨w.heap.size,c.toNat,_,by rw [List.length_replicate],heap_alloc_new w _,by rw [List.length_replicate]; omega,by unfold maxLen; omega,hlen,?_⟩⟩
      have e1:List.replicate p.toNat x0=(List.replicate c.toNat x0).take p.toNat:=by
        rw [List.take_replicate]; congr 1; omega
      rw [yY (by simpa using h0) henc hz0,List.length_replicate,e1,uF henc]
    · have hb:some w.heap.size=some b:=hb
      injection hb with hb
      subst hb
      exact ⟨Nat.le_refl _,by simp⟩
end
end Go.SL
namespace Go.SL
open Go
def lcopy {T:Type} (l m:List T) (a:Int) (k:Nat):List T:=l.take a.toNat++m.take k++l.drop (a.toNat+k)
section
variable {T:Type} {enc:T→List Value} {sz:Nat} {l m:List T} {h:Hp} {v u:Value} {p1 p2:Int} {e:TypeId}
theorem aAu (he:∀ x,(enc x).length=sz) {k a:Nat} (ha:a+k≤l.length) (hk:k≤m.length):encs enc (l.take a++m.take k++l.drop (a+k))=spl (encs enc l) (a*sz) (encs enc (m.take k)):=by
  rw [vz,vz,uF he,yc he]
  unfold spl
  have h1:(encs enc (m.take k)).length=k*sz:=by rw [ig he,List.length_take]; congr 1; omega
  rw [h1,Nat.add_mul]
end
section
variable {T:Type} {enc:T→List Value} {sz:Nat} {l m l':List T}
variable {r:Option Nat} {P:Program} {Q:Exit→Act→World→Prop} {ops:Array Oper} {i:Nat} {rest:List Nat} {a:Act} {w w0:World} {n:Nat} {ds:List Deferred} {L:List (Nat × Value)}
  {d:Nat} {ty t e:TypeId} {pos:String} {af:Array Edge} {v u:Value} {X:Nat→Prop} {B M M':List Asr} {x y:Operand} {j k:Nat} {p1 p2:Int}
theorem aDK (he:jC P t=some e) (hs:dB P e=some sz) (hS:St w0 w X B M) (hM:M[j]? = some (slE e sz enc v l)) (hr:aV (hp w) sz enc u m) (henc:∀ x,(enc x).length=sz) (hone:∀ x,bV (enc x)=true)
    (hb:sbd p1 p2 (l.length:Int)) (hk:min m.length (p2.toNat-p1.toNat)=k) :
    ∃ w',(Builtin.copy_ #[t,t] ty #[vsub sz v p1 p2,u]).run P w=.ok (.int .i64 (k:Int)) w'∧St w0 w' X B (M.set j (slE e sz enc v (lcopy l m p1 k))):=by
  have hsl:=hS.slS hM
  obtain ⟨⟨hm1,hm2,A,cm,rfl,hm3⟩,hmf⟩:=hr
  have hu:=jh he
  have hz:(sizeOf e).run P w=.ok sz w:=run_sizeOf hs
  obtain ⟨b1,b2,b3⟩:=hb
  obtain ⟨D,dc,hv⟩:∃ D dc,vsub sz v p1 p2=.slice D (p2.toNat-p1.toNat) dc:=by
    rcases hsl.2 with ⟨rfl,h0⟩ | ⟨g,cap,cur,rfl,_⟩ <;> exact ⟨_,_,rfl⟩
  have hmin:Nat.min m.length (p2.toNat-p1.toNat)=k:=hk
  rcases Nat.eq_zero_or_pos k with rfl | hk0
  · refine ⟨w,?_,?_⟩
    · have hl:∀ (x:Addr),(loadCells x 0).run P w=.ok #[] w:=fun x=>by simpa using run_loadCells_list (P:=P) w x [] (by simp)
      rw [hv]
      cases D <;> cases A <;> simp [Builtin.copy_,run_underlying hu,Builtin.lenOf,Builtin.firstCells,hz,hmin,storeCells,hl,goInt]
    · have e1:lcopy l m p1 0=l:=by simp [lcopy]
      rw [e1]
      have e2:M.set j (slE e sz enc v l)=M:=by
        apply List.ext_getElem?
        intro q
        by_cases hq:q=j
        · subst hq
          rw [List.getElem?_set_self (List.getElem?_eq_some_iff.1 hM).1,hM]
        · rw [List.getElem?_set_ne (fun h=>hq h.symm)]
      rw [e2]; exact hS
  · obtain ⟨g,cap,rfl⟩:=hsl.form (by omega)
    obtain ⟨cur,_,hg,hcs,htk,hcap,hmx⟩:=hsl.block
    obtain ⟨am,curm,em,zm,rfl,hsm,hbm,hcm⟩:=hm3 (by omega)
    obtain ⟨gm,om,sm⟩:=am
    simp only at hsm hbm hcm
    subst hsm
    have hv2:vsub sz (.slice (some ⟨g,0,none⟩) l.length cap) p1 p2=.slice (some ⟨g,p1.toNat*sz,none⟩) (p2.toNat-p1.toNat) (cap-p1.toNat):=by
      unfold vsub
      simp only
      rw [if_neg (by omega)]
      simp [gX]
    have hlen:(encs enc (m.take k)).length=k*sz:=by rw [ig henc,List.length_take]; congr 1; omega
    have hld:(loadCells ⟨gm,om,none⟩ (k*sz)).run P w=.ok (encs enc (m.take k)).toArray w:=by
      have:=run_loadCells_list (P:=P) w ⟨gm,om,none⟩ (encs enc (m.take k)) (fun q x hq=>by
        rw [uF henc,List.getElem?_take] at hq
        split at hq
        · have h5:=hcm q x hq
          rw [gX]
          rw [vT (show w.heap[gm]? = some (.cells curm em zm) from hbm)]
          exact h5
        · cases hq)
      rwa [hlen] at this
    have hfit:p1.toNat*sz+0+(encs enc (m.take k)).length≤cur.size:=by
      rw [hlen,hcs,Nat.add_zero,← Nat.add_mul]
      exact Nat.mul_le_mul_right _ (by omega)
    have hst:=ru (P:=P) (b:=g) (o:=p1.toNat*sz) (e:=e) (encs enc (m.take k)) 0 w cur hg hfit (sW hone _)
    simp only [Nat.add_zero] at hst
    refine ⟨tT w g (.cells (wr cur (p1.toNat*sz) (encs enc (m.take k))) e (0,0)),?_,?_⟩
    · rw [hv2]
      simp [Builtin.copy_,run_underlying hu,Builtin.lenOf,Builtin.firstCells,hz,hmin,hld,hst,goInt]
    · refine hS.write hM rfl rfl rfl (by rw [rG]; exact Nat.le_refl _) (fun b _ hb=>zU (fun e=>hb (by subst e; rfl))) ?_ (fun b hb=>⟨.inl hb,?_⟩)
      · have hll:(lcopy l m p1 k).length=l.length:=by unfold lcopy; simp; omega
        refine ⟨by rw [ig henc],.inr ⟨g,cap,_,by rw [hll],xR hg,by rw [hll]; exact hcap,hmx,by rw [zX]; exact hcs,?_⟩⟩
        rw [hll]
        unfold lcopy
        rw [aAu henc (by omega) (by omega)]
        have h6:(p1.toNat*sz)+(encs enc (m.take k)).length≤l.length*sz:=by rw [hlen,← Nat.add_mul]; exact Nat.mul_le_mul_right _ (by omega)
        apply List.ext_getElem?
        intro s
        rw [yK (by rw [ig henc l]; exact h6),← htk,List.getElem?_take,Array.getElem?_toList,wL,List.getElem?_take,Array.getElem?_toList]
        have h7:l.length*sz≤cap*sz:=Nat.mul_le_mul_right _ hcap
        by_cases h8:s<l.length*sz
        · simp only [h8,if_true]
          by_cases h9:p1.toNat*sz≤s∧s<p1.toNat*sz+(encs enc (m.take k)).length
          · rw [if_pos h9,if_pos ⟨by omega,h9⟩]
          · rw [if_neg h9,if_neg (fun h=>h9 h.2),Array.getElem?_toList]
        · simp only [h8,if_false]
          rw [if_neg (by omega)]
      · have hb':some g=some b:=hb
        injection hb' with hb'
        subst hb'
        rw [rG]
        exact (Array.getElem?_eq_some_iff.1 hg).1
theorem O.aG3 (hf:Fr a n ds L) (hS:St w0 w X B M) (ho:ops[i]? = some ⟨some d,.call ⟨.builtin .copy,#[x,y],#[t,t]⟩,ty,pos,af,none⟩) (hd:Nat.blt d n=true)
    (he:jC P t=some e) (hs:dB P e=some sz) (hx:ev L x=some (vsub sz v p1 p2)) (hy:ev L y=some u) (hM:M[j]? = some (slE e sz enc v l)) (hr:aV (hp w) sz enc u m) (henc:∀ x,(enc x).length=sz) (hone:∀ x,bV (enc x)=true)
    (hb:sbd p1 p2 (l.length:Int)) (hk:min m.length (p2.toNat-p1.toNat)=k) (hM':M.set j (slE e sz enc v (lcopy l m p1 k))=M')
    (K:∀ w' a',St w0 w' X B M'→Fr a' n ds ((d,.int .i64 (k:Int))::L)→O r P ops Q rest a' w'):O r P ops Q (i::rest) a w:=by
  subst hM'
  obtain ⟨w',h1,h2⟩:=aDK (P:=P) (ty:=ty) he hs hS hM hr henc hone hb hk
  refine O.val (w':=w') (v:=.int .i64 (k:Int)) hf ho rfl hd ?_ (fun a' hf'=>K w' a' h2 hf')
  intro a d pos af g hf
  refine oH (vs:=[vsub sz v p1 p2,u]) hf (by simp [evA,hx,hy]) ?_
  simp only [builtin]
  exact mU h1
end
end Go.SL
namespace Go.SL
open Go
theorem aA.com {P:Program} {w:World} {n:Nat} {ds:List Deferred} {L:List (Nat × Value)} {ty t:TypeId} {x:Operand} {k:IntKind} {p c:Int} (hc:(if k.signed then -1 else k.max)=c) (hx:ev L x=some (.int k p)) :
    aA P n ds L (.unOp .xor t x) ty w (.int k (Go.SL.bitxor k c p)) w:=fun a d pos af g hf=>by
  subst hc
  simp only [execOp,hf.eval hx]; rfl
theorem EqR.sl {P:Program} {t e:TypeId} {d:Nat} {A:Option Addr} {n c n' c':Nat} (ht:jC P t=some e):EqR P (d+1) t (.slice A n c) (.slice none n' c') A.isNone:=fun w=>by
  cases A <;> simp [Op.equalIn,run_underlying (jh ht)]
theorem aBp {P:Program} {w:World} {t e:TypeId} {v u:Value} {A A':Option Addr} {n c n' c':Nat} (ht:jC P t=some e) (hv:v=.slice A n c) (hA:A'=none) (hu:u=.slice A' n' c'):(binOp .eql t v u).run P w=.ok (.bool A.isNone) w:=by
  subst hv hA hu
  have:=(EqR.sl (d:=9999) ht:EqR P 10000 t (.slice A n c) (.slice none n' c') A.isNone) w
  simp only [binOp,Op.equal,Op.maxDepth,Sem.run_bind,this,Result.andThen_ok,Sem.run_pure]
section
variable {P:Program} {w:World} {n:Nat} {ds:List Deferred} {L:List (Nat × Value)} {ty t t' e:TypeId} {x y:Operand} {v:Value} {k c:Nat} {a:Addr}
theorem aA.aDk (ht:jC P t=some e) (hv:v=.slice none k c) (hx:ev L x=some v) (hy:ev L y=some (.slice none 0 0)):aA P n ds L (.binOp .eql t x y t') ty w (.bool true) w:=fun a d pos af g hf=>by
  simp only [execOp,hf.eval hx,hf.eval hy]
  have e1:(eqGuard .eql t x y v (.slice none 0 0)).run P w=.ok () w:=by subst hv; simp [eqGuard]
  have e2:=aBp (P:=P) (w:=w) (u:=.slice none 0 0) ht hv rfl rfl
  simp only [Sem.run_bind,e1,e2,Result.andThen_ok,Sem.run_pure]; rfl
theorem aA.aEm (ht:jC P t=some e) (hv:v=.slice (some a) k c) (hx:ev L x=some v) (hy:ev L y=some (.slice none 0 0)):aA P n ds L (.binOp .eql t x y t') ty w (.bool false) w:=fun a d pos af g hf=>by
  simp only [execOp,hf.eval hx,hf.eval hy]
  have e1:(eqGuard .eql t x y v (.slice none 0 0)).run P w=.ok () w:=by subst hv; simp [eqGuard]
  have e2:=aBp (P:=P) (w:=w) (u:=.slice none 0 0) ht hv rfl rfl
  simp only [Sem.run_bind,e1,e2,Result.andThen_ok,Sem.run_pure]; rfl
end
theorem aEI {T:Type} {enc:T→List Value} {sz:Nat} {l:List T} {h:Hp} {v:Value} (hr:aV h sz enc v l):(∃ c,v=.slice none 0 c∧l=[])∨∃ a n c,v=.slice (some a) n c:=by
  obtain ⟨⟨h1,h2,A,c,rfl,h3⟩,hfit⟩:=hr
  cases A with
  | none =>
    left
    rcases Nat.eq_zero_or_pos l.length with h | h
    · exact ⟨c,by rw [h],List.length_eq_zero_iff.1 h⟩
    · obtain ⟨a,_,_,_,h4,_⟩:=h3 h; cases h4
  | some a=>exact .inr ⟨a,_,c,rfl⟩
end Go.SL
namespace Go.SL
open Go
section
variable {P:Program} {Q:Exit→Act→World→Prop} {ops:Array Oper} {a:Act} {w w0 w':World} {n:Nat} {ds:List Deferred} {L:List (Nat × Value)}
  {d:Nat} {op:Op} {ty:TypeId} {pos:String} {af:Array Edge} {v:Value} {X:Nat→Prop} {B M:List Asr} {f:FuncId} {args:Array Value}
theorem OQ.aGi {K:Act→Prop} {lo:List Oper} (hf:Fr a n ds L) (hd:Nat.blt d n=true) (hr:∀ w,St w0 w X B M→tY P n ds L op ty w f args) (hc:∀ w,St w0 w X B M→Ret P f args w (fun _:Unit=>v) (fun _ w1=>St w w1 noX [] []))
    (k:∀ a',Fr a' n ds ((d,v)::L)→OQ P ops (fun w=>St w0 w X B M) K lo a'):OQ P ops (fun w=>St w0 w X B M) K (⟨some d,op,ty,pos,af,none⟩::lo) a :=
  OQ.call hf hd hr (fun w hw=>Calls.mono (hc w hw) fun _ w' ⟨_,he,hR⟩=>⟨he,(hw.call hR).aG9⟩) k
end
end Go.SL

namespace Go.SL
open Go
def eKey (e:MapEntry):Value:=e.key
structure MOK (es:Array MapEntry) (clock:Nat) (ks:List Int):Prop where
  keys:es.toList.map (·.key)=ks.map (Value.int .i64)
  vals:∀ e ∈ es.toList,e.val=.bool true
  born:∀ e ∈ es.toList,e.born<clock
  apart:(es.toList.map (·.born)).Nodup
  nodup:ks.Nodup
def aFz (h:Hp) (b:Nat) (ins:List Bool):Prop :=
  ∃ es clock ks,h b=some (.map es clock)∧MOK es clock ks∧(∀ k ∈ ks,0≤k)∧∀ i:Nat,((i:Int) ∈ ks↔ins.getD i false=true)
def ms (b:Nat) (ins:List Bool):Asr:=⟨fun k=>k=b,fun h=>aFz h b ins,fun h h' hk ⟨es,c,ks,h1,h2⟩=>⟨es,c,ks,by rw [hk b rfl]; exact h1,h2⟩⟩
def tSet (P:Program) (t:TypeId):Option TypeId :=
  match P.underlying t with
  | some (.map k e)=>match P.underlying k with
    | some (.int _)=>match iQ P e with
      | some (.bool false)=>some k
      | _=>none
    | _=>none
  | _=>none
section
variable {P:Program} {w:World} {t kt:TypeId} {k:Int}
theorem run_underlying {d:TypeDesc} (h:P.underlying t=some d):(underlying t).run P w=.ok d w:=by
  simp [underlying,h]
def aHN (k:Int):List Int→Nat→Option Nat
  | [],_=>none
  | x::t,i=>if k=x then some i else aHN k t (i+1)
section
variable {es:Array MapEntry} {c:Nat} {ks:List Int}
theorem MOK.push (h:MOK es c ks) (hk:k ∉ ks):MOK (es.push { key:=.int .i64 k,val:=.bool true,born:=c }) (c+1) (ks++[k]):=by
  refine ⟨by simp [h.keys],fun e he=>?_,fun e he=>?_,?_,?_⟩
  · simp only [Array.toList_push,List.mem_append,List.mem_singleton] at he
    rcases he with he | rfl
    · exact h.vals e he
    · rfl
  · simp only [Array.toList_push,List.mem_append,List.mem_singleton] at he
    rcases he with he | rfl
    · have:=h.born e he; omega
    · exact Nat.lt_succ_self _
  · simp only [Array.toList_push,List.map_append,List.map_cons,List.map_nil]
    rw [List.nodup_append]
    refine ⟨h.apart,by simp,fun x hx y hy=>?_⟩
    simp only [List.mem_singleton] at hy
    subst hy
    obtain ⟨e,he,rfl⟩:=List.mem_map.1 hx
    have:=h.born e he; omega
  · rw [List.nodup_append]
    exact ⟨h.nodup,by simp,fun x hx y hy e=>by simp only [List.mem_singleton] at hy; subst hy; exact hk (e▸hx)⟩
end
def qB (w:World) (b:Nat) (es:Array MapEntry) (c:Nat):World:={ w with heap:=w.heap.setIfInBounds b (.map es c) }
variable {b:Nat} {ins:List Bool} {i:Nat}
end
section
variable {r:Option Nat} {P:Program} {ops:Array Oper} {Q:Exit→Act→World→Prop} {a:Act} {w w0:World} {n:Nat} {ds:List Deferred} {L:List (Nat × Value)} {X:Nat→Prop} {B M M':List Asr}
  {d i j b:Nat} {ty t kt:TypeId} {pos:String} {af:Array Edge} {rest:List Nat} {x y z:Operand} {ins:List Bool} {q:Nat}
theorem St.qB (h:St w0 w X B M) (hi:M[j]? = some (ms b ins)) {es:Array MapEntry} {c:Nat} {ins':List Bool} (hs:aFz (hp (SL.qB w b es c)) b ins'):St w0 (SL.qB w b es c) X B (M.set j (ms b ins')):=by
  have hl:=(h.sep.get hi).2 b rfl
  refine h.write (w':=SL.qB w b es c) hi rfl rfl rfl (by simp [SL.qB]) (fun k _ hk=>?_) hs (fun k hk=>⟨.inl hk,by
    have hk:k=b:=hk
    subst hk
    simpa [SL.qB] using hl.1⟩)
  simp only [SL.qB]
  exact Array.getElem?_setIfInBounds_ne (fun e=>hk e.symm)
theorem O.makeMap (hf:Fr a n ds L) (hS:St w0 w X B M) (ho:ops[i]? = some ⟨some d,.makeMap t none,ty,pos,af,none⟩) (hd:Nat.blt d n=true) (ins:List Bool) (hins:∀ q,ins.getD q false=false)
    (k:∀ b w' a',w0.heap.size≤b→St w0 w' X B (ms b ins::M)→Fr a' n ds ((d,.map (some b))::L)→O r P ops Q rest a' w'):O r P ops Q (i::rest) a w:=by
  refine O.val (w':=w.alloc (.map #[] 0)) hf ho rfl hd (v:=.map (some w.heap.size)) ?_ (fun a' hf'=>k _ _ a' hS.size ?_ hf')
  · intro a d pos af g hf
    simp only [execOp]
    exact mU rfl
  · refine (hS.alloc (.map #[] 0)).conv (i:=0) (p:=pt w.heap.size (.map #[] 0)) (q:=ms w.heap.size ins) rfl (fun h=>⟨#[],0,[],h,⟨rfl,by simp,by simp,by simp,by simp⟩,by simp,fun q=>?_⟩) (fun b hb=>hb)
    rw [hins q]; simp
end
end Go.SL

namespace Go.SL
open Go
def wu (Ds:List Nat):List Deferred:=Ds.map fun D=>{ target:=.collected D,args:=#[] }
def mkA (Ds:List Nat):Asr:=⟨fun b=>b ∈ Ds,fun h=>Ds.Nodup∧∀ D ∈ Ds,h D=some (.deferred (some [])),fun h h' hk hh=>⟨hh.1,fun D hD=>by rw [hk D hD]; exact hh.2 D hD⟩⟩
section
variable {P:Program} {a:Act} {w w0 w':World} {n:Nat} {ds:List Deferred} {L:List (Nat × Value)} {X:Nat→Prop} {B M:List Asr} {j b l D:Nat} {o o':Obj} {Ds:List Nat}
theorem St.mk0 (h:St w0 w X B M):St w0 w X B (mkA []::M):=h.aC3 ⟨by simp,by simp⟩ (fun b hb=>by simp [mkA] at hb)
theorem St.aDi (h:St w0 w X B M) (hi:M[j]? = some (pt b o)) (o':Obj):St w0 (w.putObj b o') X B (M.set j (pt b o')):=by
  have hb:w.heap[b]? = some o:=h.at_ hi
  have hl:=(Array.getElem?_eq_some_iff.1 hb).1
  refine h.write (w':=w.putObj b o') hi rfl rfl rfl (by simp) (fun k _ hk=>World.putObj_heap_other hk) (World.putObj_heap_same hl) (fun k hk=>⟨.inl hk,by
    have hk:k=b:=hk
    subst hk
    simpa using hl⟩)
theorem St.aBW (h:St w0 w X B (pt D (.deferred (some []))::mkA Ds::M)):St w0 w X B (mkA (D::Ds)::M):=by
  have h1:=h.sep
  refine ⟨h.os,h.tape,h.output,h.size,h.old,⟨⟨⟨?_,fun E hE=>?_⟩,fun b hb=>?_,fun q hq b hb hqb=>?_⟩,h1.2.2⟩,h.bor⟩
  · exact List.nodup_cons.2 ⟨fun hD=>h1.1.2.2 (mkA Ds) (by simp) D rfl hD,h1.2.1.1.1⟩
  · rcases List.mem_cons.1 hE with rfl | hE
    · exact h1.1.1
    · exact h1.2.1.1.2 E hE
  · rcases List.mem_cons.1 hb with rfl | hb
    · exact h1.1.2.1 b rfl
    · exact h1.2.1.2.1 b hb
  · rcases List.mem_cons.1 hb with rfl | hb
    · exact h1.1.2.2 q (by simp [hq]) b rfl hqb
    · exact h1.2.1.2.2 q hq b hb hqb
theorem St.aEZ (h:St w0 w X B (mkA (D::Ds)::M)):St w0 w X B (pt D (.deferred (some []))::mkA Ds::M):=by
  have h1:=h.sep
  have hnd:=List.nodup_cons.1 h1.1.1.1
  refine ⟨h.os,h.tape,h.output,h.size,h.old,⟨⟨h1.1.1.2 D (by simp),fun b hb=>?_,fun q hq b hb hqb=>?_⟩,⟨⟨hnd.2,fun E hE=>h1.1.1.2 E (by simp [hE])⟩,fun b hb=>h1.1.2.1 b (List.mem_cons_of_mem _ hb),fun q hq b hb hqb=>h1.1.2.2 q hq b (List.mem_cons_of_mem _ hb) hqb⟩,h1.2⟩,h.bor⟩
  · have hb:b=D:=hb
    subst hb
    exact h1.1.2.1 b (List.mem_cons_self ..)
  · have hb:b=D:=hb
    subst hb
    rcases List.mem_cons.1 hq with rfl | hq
    · exact hnd.1 hqb
    · exact h1.1.2.2 q hq b (List.mem_cons_self ..) hqb
theorem aAw {fn:Func} {R:Ending→World→Prop} (hS:St w0 w X B (mkA Ds::M)) (hf:Fr a n (wu Ds) L) (h:∀ w' a',Fr a' n [] L→St w0 w' X B M→bodyPost P fn R .ret a' w') :
    bodyPostM (FW none) 0 P fn R .ret a w:=by
  show LeavesInM (FW none) 0 P fn a.tmps R a.defers .returning w
  rw [hf.defers]
  have key:∀ (Ds:List Nat) (w:World),St w0 w X B (mkA Ds::M)→LeavesInM (FW none) 0 P fn a.tmps R (wu Ds) .returning w:=by
    intro Ds
    induction Ds with
    | nil =>
      intro w hS
      obtain ⟨_,v,h1,h2⟩:=h w { a with defers:=[] } ⟨hf.size,rfl,hf.get⟩ (hS.sub (List.sublist_cons_self _ _))
      exact ⟨v,h1,h2⟩
    | cons D Ds ih =>
      intro w hS
      have h1:=hS.aEZ
      refine ⟨by simp,.inl ⟨D,w.putObj D (.deferred none),rfl,run_takeDeferred (h1.at_ (i:=0) rfl),ih _ ?_⟩⟩
      exact (h1.aDi (j:=0) rfl _).sub (List.sublist_cons_self _ _)
  exact key Ds w hS
theorem y5 {G:Type} {v:G→Value} {R:G→World→Prop} {f:FuncId} {fn:Func} {c:Code} {lv:List Value} (hf:P.funcs[f]? = some fn) (hb:fn.body=some c) (hn:fn.ntmps=n) (hl:Nat.ble lv.length n=true)
    (h:∀ a,Fr a n [] (zF 0 lv)→W none P c (bodyPostM (FW none) 0 P fn (fun e w'=>∃ g,e=.returned (v g)∧R g w')) a w):Ret P f lv.toArray w v R:=by
  refine (sJ (r:=none) (n:=0)).1 (callsIn_of_wp_marks hf hb trivial ?_ rfl)
  exact h _ (Fr.start rfl (by simpa using hl) (by rw [hn]))
end
def IterR (P:Program) (gf:FuncId) (lb:Array Value) (xs:List Value) (Bs:List (Nat × Obj)):Prop :=
  ∀ (l:Nat) (R:Nat→World→Prop),(∀ k w,R k w→R k w.drew)→(∀ k w,R k w→∀ p ∈ Bs,w.heap[p.1]? = some p.2) →
    (∀ k x,xs[k]? = some x→∀ w,R k w→YieldAt (FW none) 0 P l #[x] w (fun e w'=>e=.returned (.bool true)∧R (k+1) w')) →
    ∀ w,R 0 w→Calls P gf (#[.func (.yield l) #[] #[]]++lb) w (fun e w'=>(∃ v,e=.returned v)∧R xs.length w')
section
variable {P:Program} {Q:Exit→Act→World→Prop} {a:Act} {w w0 w':World} {n:Nat} {ds:List Deferred} {L:List (Nat × Value)} {X:Nat→Prop} {B M:List Asr}
theorem aBJ {f:FuncId} (h:au P f=true) (args:Array Value) (w:World):(callFunc f args).run P w=.ok (.enter f args) w:=by
  unfold au at h
  split at h
  · rename_i fn hfn
    simp only [Bool.and_eq_true,bne_iff_ne,ne_eq] at h
    obtain ⟨h1,h2⟩:=h
    have h3:fn.body.isNone=false:=by cases hb:fn.body <;> simp_all
    have hp:(program).run P w=.ok P w:=rfl
    simp only [callFunc,Sem.run_bind,hp,Result.andThen,hfn]
    simp [h1,h3]
  · cases h
end
end Go.SL
namespace Go.SL
open Go
section
variable {r:Option Nat} {P:Program} {Q:Exit→Act→World→Prop} {ops:Array Oper} {i:Nat} {rest:List Nat} {a:Act} {w w0 w':World} {n:Nat} {ds:List Deferred} {L:List (Nat × Value)}
  {d:Nat} {op:Op} {ty:TypeId} {pos:String} {af:Array Edge} {v x:Value} {X:Nat→Prop} {B M:List Asr} {f y:Operand} {l:Nat} {R:World→Prop} {at_:Array TypeId}
theorem aAf {g:Option (Nat × Bool)} {dst:Option Tmp} (hf:Fr a n ds L) (hx:ev L f=some (.func (.yield l) #[] #[])) (hy:ev L y=some x) {res:Result Next} (h:(Instr.yield l #[x]).run P w=res) :
    (execOp a.eval ⟨dst,.call ⟨.value f,#[y],at_⟩,ty,pos,af,g⟩).run P w=res:=by
  simp only [execOp,resolve,Sem.run_bind,Sem.run_pure,Result.andThen,hf.eval hx,Deferred.ofValue,invoke]
  have e:(#[]++#[y].map a.eval++#[]:Array Value)=#[x]:=by simp [hf.eval hy]
  simp [hf.eval hy]
  exact h
theorem O.yield (hf:Fr a n ds L) (ho:ops[i]? = some ⟨some d,.call ⟨.value f,#[y],at_⟩,ty,pos,af,none⟩) (hd:Nat.blt d n=true) (hx:ev L f=some (.func (.yield l) #[] #[])) (hy:ev L y=some x)
    (hY:YieldAt (FW none) 0 P l #[x] w (fun e w'=>e=.returned (.bool true)∧R w'))
    (k:∀ w' a',R w'→Fr a' n ds ((d,.bool true)::L)→O none P ops Q rest a' w'):O none P ops Q (i::rest) a w:=by
  obtain ⟨fn,tmps,assign,body,h1,h2⟩:=hY
  unfold O wpOpsIn
  simp only [ho]
  rw [if_pos (by simp [Region.wanted])]
  refine ⟨fun _ _=>trivial,?_⟩
  rw [qc (o:=⟨some d,.call ⟨.value f,#[y],at_⟩,ty,pos,af,none⟩) rfl,aAf hf hx hy h1]
  refine ⟨fun h=>by simp [FW] at h,h2.mono ?_⟩
  rintro e w' ⟨rfl,hR⟩
  exact k w' _ hR (hf.put hd _)
end
end Go.SL
namespace Go.SL
end Go.SL
namespace Go.SL
end Go.SL

namespace Go.SL
open Go
def aFy (P:Program) (gf:FuncId) (lb:Array Value) (xs:List (Value × Value)) (Rd:World→Prop):Prop :=
  ∀ (l:Nat) (R:Nat→World→Prop) (S:World→Prop),(∀ k w,R k w→R k w.drew)→(∀ k w,R k w→Rd w) →
    (∀ k x,xs[k]? = some x→∀ w,R k w→YieldAt (FW none) 0 P l #[x.1,x.2] w (fun e w'=>(e=.returned (.bool true)∧R (k+1) w')∨(e=.returned (.bool false)∧S w'))) →
    ∀ w,R 0 w→Calls P gf (#[.func (.yield l) #[] #[]]++lb) w (fun e w'=>(∃ v,e=.returned v)∧(R xs.length w'∨S w'))
section
variable {P:Program} {Q:Exit→Act→World→Prop} {a:Act} {w w0 w':World} {n:Nat} {ds:List Deferred} {L:List (Nat × Value)} {X:Nat→Prop} {B M:List Asr}
theorem W.aAF {G G2:Type} {g:Operand} {p1 p2:Nat} {assign body:Code} {xs:List (Value × Value)} {lb:Array Value} {gf:FuncId} (L':Value→Value→List (Nat × Value)) (MM:G→List Asr) (Fc:Nat→G→Prop) (g0:G) (Rd:World→Prop) (MS:G2→List Asr) (Fs:G2→Prop)
    (hf:Fr a n ds L) (hp1:Nat.blt p1 n=true) (hp2:Nat.blt p2 n=true) (hg:ev L g=some (.func (.func gf) #[] lb)) (eg:au P gf=true) (hS:St w0 w X B (MM g0)) (hF:Fc 0 g0)
    (hit:aFy P gf lb xs Rd) (hB:∀ g w,St w0 w X B (MM g)→Rd w)
    (hassign:∀ l x y w a',Fr a' n [] ((p2,y)::(p1,x)::L)→W (some l) P assign (fun e a'' w''=>e=.normal∧Fr a'' n [] (L' x y)∧w''=w) a' w)
    (hbody:∀ l o D k x y g w,xs[k]? = some (x,y)→Fc k g→St w0 w X B (pt l o::pt D (.deferred (some []))::MM g)→∀ a',Fr a' n [] (L' x y) →
      W (some l) P body (fun e a'' w''=>(e=.normal∧∃ g',Fc (k+1) g'∧St w0 w'' X B (pt l o::pt D (.deferred (some []))::MM g'))∨(e=.ret∧∃ g2,Fs g2∧St w0 w'' X B (pt l o::pt D (.deferred (some []))::MS g2))) a' w)
    (hdone:∀ D g a' w,Fc xs.length g→St w0 w X B (pt D (.deferred (some []))::MM g)→Fr a' n ({ target:=.collected D,args:=#[] }::ds) L→Q .normal a' w)
    (hstop:∀ D g2 a' w,Fs g2→St w0 w X B (pt D (.deferred (some []))::MS g2)→Fr a' n ({ target:=.collected D,args:=#[] }::ds) L→Q .ret a' w) :
    W none P (.rangeFunc g #[p1,p2] assign body) Q a w:=by
  refine wpIn_rangeFunc ?_
  intro fn hfn
  obtain ⟨rec,hrec⟩:∃ rec:LoopState→Option Code→Loop,rec=fun st pe=>{ state:=st,pending:=pe,fn,tmps:=a.tmps,params:=#[p1,p2],assign,body,defers:=w.heap.size }:=⟨_,rfl⟩
  obtain ⟨W1,hW1⟩:∃ W1,(w.alloc (.deferred (some []))).alloc (.loop (rec .ready none))=W1:=⟨_,rfl⟩
  have hS1:St w0 W1 X B (pt (w.heap.size+1) (.loop (rec .ready none))::pt w.heap.size (.deferred (some []))::MM g0):=by
    have:=(hS.alloc (.deferred (some []))).alloc (.loop (rec .ready none))
    rw [hW1,World.size_alloc] at this
    exact this
  refine ⟨w.heap.size+1,[{ target:=.collected w.heap.size,args:=#[] }],W1,{ target:=.fn (.func gf) lb,args:=#[.func (.yield (w.heap.size+1)) #[] #[]] },W1,gf,
    #[.func (.yield (w.heap.size+1)) #[] #[]]++lb,W1,?_,?_,?_,?_,fun h=>by simp [FW] at h,?_⟩
  · rw [← hW1,hrec]; exact run_enterLoop_outer _ _ _ _ _
  · simp only [resolve,hf.eval hg]
    simp [go_sem]
  · intro f' hf'; trivial
  · simp [invoke,go_sem,aBJ eg]
  · generalize hl:w.heap.size+1=l at hS1 ⊢
    generalize hD:w.heap.size=D at hS1 hl ⊢ hrec
    have hrec':∀ st pe,rec st pe={ state:=st,pending:=pe,fn,tmps:=a.tmps,params:=#[p1,p2],assign,body,defers:=D }:=fun st pe=>by rw [hrec]
    clear hrec hW1
    refine sJ.2 ((hit l (fun k w=>∃ g,Fc k g∧St w0 w X B (pt l (.loop (rec .ready none))::pt D (.deferred (some []))::MM g))
      (fun w=>∃ g2,Fs g2∧St w0 w X B (pt l (.loop (rec .done (some .ret)))::pt D (.deferred (some []))::MS g2)) ?_ ?_ ?_ W1 ⟨g0,hF,hS1⟩).mono ?_)
    · rintro k w ⟨g,h1,h2⟩; exact ⟨g,h1,h2.drew⟩
    · rintro k w ⟨g,h1,h2⟩; exact hB g w (h2.sub ((List.sublist_cons_self _ _).trans (List.sublist_cons_self _ _)))
    · rintro k ⟨x,y⟩ hx w ⟨g,h1,h2⟩
      have hlr:w.heap[l]? = some (.loop (rec .ready none)):=h2.at_ (i:=0) rfl
      have hy:=run_yield (P:=P) (args:=#[x,y]) hlr (by rw [hrec']; simp)
      refine ⟨fn,_,assign,body,by rw [hrec'] at hy; exact hy,?_⟩
      refine roundIn_of_wpIn (F:=FW none) hfn ?_
      have hfr:Fr { tmps:=(#[p1,p2].zip #[x,y]).foldl (fun t (p,v)=>t.setIfInBounds p v) a.tmps,defers:=[] } n [] ((p2,y)::(p1,x)::L):=by
        have h0:=Fr.put (a:={ a with defers:=[] }) (ds:=[]) ⟨hf.size,rfl,hf.get⟩ hp1 x
        have:=h0.put hp2 y
        have e:(#[p1,p2].zip #[x,y]).foldl (fun t (p,v)=>t.setIfInBounds p v) a.tmps=(a.tmps.setIfInBounds p1 x).setIfInBounds p2 y:=by simp
        rw [e]
        exact this
      have hW:=hassign l x y w _ hfr
      refine wpIn_mono (F:=FW (some l)) hW ?_
      rintro e a1 w1 ⟨rfl,hfr1,rfl⟩
      refine ⟨_,run_beginRound hlr (by rw [hrec']),?_⟩
      have h3:=h2.aDi (j:=0) rfl (.loop { rec .ready none with state:=.busy })
      refine wpIn_mono (F:=FW (some l)) (hbody l _ D k x y g _ hx h1 h3 a1 hfr1) ?_
      rintro e a2 w2 (⟨rfl,g',h4,h5⟩ | ⟨rfl,g2,h4,h5⟩)
      · have hl2:w2.heap[l]? = some (.loop { rec .ready none with state:=.busy }):=h5.at_ (i:=0) rfl
        refine ⟨_,_,run_endRound none hl2,.inl ⟨rfl,g',h4,?_⟩⟩
        have h6:=h5.aDi (j:=0) rfl (.loop (rec .ready none))
        simpa [hrec'] using h6
      · have hl2:w2.heap[l]? = some (.loop { rec .ready none with state:=.busy }):=h5.at_ (i:=0) rfl
        refine ⟨_,_,run_endRound (some .ret) hl2,.inr ⟨rfl,g2,h4,?_⟩⟩
        have h6:=h5.aDi (j:=0) rfl (.loop (rec .done (some .ret)))
        simpa [hrec'] using h6
    · rintro e w2 ⟨⟨v,rfl⟩,(⟨g,h1,h2⟩ | ⟨g2,h1,h2⟩)⟩
      · have hl2:w2.heap[l]? = some (.loop (rec .ready none)):=h2.at_ (i:=0) rfl
        refine ⟨none,_,by have:=run_endLoop (P:=P) hl2 (by rw [hrec']; simp); rw [hrec'] at this; exact this,?_⟩
        have h3:=h2.aDi (j:=0) rfl (.loop { rec .ready none with state:=.exhausted })
        refine hdone D g _ _ h1 (by have:=h3.sub (List.sublist_cons_self _ _); simpa [hrec'] using this) ⟨hf.size,by show _::a.defers=_; rw [hf.defers],hf.get⟩
      · have hl2:w2.heap[l]? = some (.loop (rec .done (some .ret))):=h2.at_ (i:=0) rfl
        refine ⟨some .ret,_,by have:=run_endLoop (P:=P) hl2 (by rw [hrec']; simp); rw [hrec'] at this; exact this,?_⟩
        have h3:=h2.aDi (j:=0) rfl (.loop { rec .done (some .ret) with state:=.exhausted })
        refine W.ret (r:=none) (Q:=Q) ?_
        refine hstop D g2 _ _ h1 (by have:=h3.sub (List.sublist_cons_self _ _); simpa [hrec'] using this) ⟨hf.size,by show _::a.defers=_; rw [hf.defers],hf.get⟩
end
end Go.SL
namespace Go.SL
open Go
section
variable {P:Program} {Q:Exit→Act→World→Prop} {ops:Array Oper} {i:Nat} {rest:List Nat} {a:Act} {w w0 w':World} {n:Nat} {ds:List Deferred} {L:List (Nat × Value)}
  {d:Nat} {ty:TypeId} {pos:String} {af:Array Edge} {x1 x2:Value} {f y1 y2:Operand} {l:Nat} {R S:World→Prop} {at_:Array TypeId}
theorem O.aGh (hf:Fr a n ds L) (ho:ops[i]? = some ⟨some d,.call ⟨.value f,#[y1,y2],at_⟩,ty,pos,af,none⟩) (hd:Nat.blt d n=true) (hx:ev L f=some (.func (.yield l) #[] #[])) (hy1:ev L y1=some x1) (hy2:ev L y2=some x2)
    (hY:YieldAt (FW none) 0 P l #[x1,x2] w (fun e w'=>(e=.returned (.bool true)∧R w')∨(e=.returned (.bool false)∧S w')))
    (k:∀ c w' a',(c=true∧R w'∨c=false∧S w')→Fr a' n ds ((d,.bool c)::L)→O none P ops Q rest a' w'):O none P ops Q (i::rest) a w:=by
  obtain ⟨fn,tmps,assign,body,h1,h2⟩:=hY
  have h3:(execOp a.eval ⟨some d,.call ⟨.value f,#[y1,y2],at_⟩,ty,pos,af,none⟩).run P w=.ok (.round l fn tmps assign body) w:=by
    simp only [execOp,resolve,Sem.run_bind,Sem.run_pure,Result.andThen,hf.eval hx,Deferred.ofValue,invoke]
    simp [hf.eval hy1,hf.eval hy2]
    exact h1
  unfold O wpOpsIn
  simp only [ho]
  rw [if_pos (by simp [Region.wanted])]
  refine ⟨fun _ _=>trivial,?_⟩
  rw [qc (o:=⟨some d,.call ⟨.value f,#[y1,y2],at_⟩,ty,pos,af,none⟩) rfl,h3]
  refine ⟨fun h=>by simp [FW] at h,h2.mono ?_⟩
  rintro e w' (⟨rfl,hR⟩ | ⟨rfl,hR⟩)
  · exact k true w' _ (.inl ⟨rfl,hR⟩) (hf.put hd _)
  · exact k false w' _ (.inr ⟨rfl,hR⟩) (hf.put hd _)
end
def iJ {T:Type} (l:List T):List (Int × T):=(l.zipIdx.map fun p=>((p.2:Int),p.1)).reverse
theorem aDJ {T:Type} (l:List T):(iJ l).length=l.length:=by simp [iJ]
theorem aDY {T:Type} {l:List T} {k:Nat} (h:k<l.length):(iJ l)[k]? = some (((l.length-1-k:Nat):Int),l[l.length-1-k]):=by
  unfold iJ
  rw [List.getElem?_reverse (by simpa using h)]
  simp [List.getElem?_zipIdx,List.getElem?_eq_getElem (show l.length-1-k<l.length by omega)]
def aFb {T:Type} (t:TypeId) (sz:Nat) (enc:T→List Value) (b:Nat) (s:Value) (l:List T) (w:World):Prop:=w.heap[b]? = some (.cells #[s] t (0,0))∧aV (hp w) sz enc s l
end Go.SL
namespace Go.SL
theorem drop_cons {T:Type} {L:List T} {k:Nat} {p:T} (h:L[k]? = some p):L.drop k=p::L.drop (k+1):=by
  obtain ⟨h1,rfl⟩:=List.getElem?_eq_some_iff.1 h
  exact List.drop_eq_getElem_cons h1
theorem aCL {T U:Type} {l:List T} {f:Int × T→U} {k:Nat} {z:U} (h:((iJ l).map f)[k]? = some z):∃ p,(iJ l)[k]? = some p∧f p=z:=by
  rw [List.getElem?_map] at h
  exact Option.map_eq_some_iff.1 h
end Go.SL
namespace Go.SL
open Go
theorem OQ.aGD {P:Program} {ops:Array Oper} {C:World→Prop} {K K':Act→Prop}:∀ (k:Nat) {lo:List Oper} {a:Act},OQ P ops C K' (lo.take k) a→(∀ a',K' a'→OQ P ops C K (lo.drop k) a')→OQ P ops C K lo a
  | 0,lo,a,h,h2=>h2 a h
  | k+1,[],a,h,h2=>h2 a h
  | k+1,o::t,a,h,h2=>by
    unfold OQ at *
    simp only [List.take_succ_cons,List.drop_succ_cons] at h h2
    unfold wpQuiet at h ⊢
    split at h
    · rename_i hw
      rw [if_pos hw]
      obtain ⟨u,h3,h4⟩:=h
      exact ⟨u,h3,OQ.aGD k h4 h2⟩
    · rename_i hw
      rw [if_neg hw]
      exact OQ.aGD k h h2
end Go.SL
namespace Go.SL
open Go
section
variable {P:Program} {ops:Array Oper} {a:Act} {w0:World} {n:Nat} {ds:List Deferred} {L:List (Nat × Value)}
  {d:Nat} {op:Op} {ty:TypeId} {pos:String} {af:Array Edge} {v:Value} {X:Nat→Prop} {B M:List Asr} {f:FuncId} {args:Array Value}
end
end Go.SL

namespace Go.SL
open Go
def vfull:Value→Value
  | .slice A n _=>.slice A n n
  | _=>undef
section
variable {T:Type} {enc:T→List Value} {sz:Nat} {l m:List T}
variable {r:Option Nat} {P:Program} {Q:Exit→Act→World→Prop} {ops:Array Oper} {i:Nat} {rest:List Nat} {a:Act} {w w0 w':World} {n:Nat} {ds:List Deferred} {L:List (Nat × Value)}
  {d:Nat} {op:Op} {ty t e:TypeId} {pos:String} {af:Array Edge} {v u z:Value} {X:Nat→Prop} {B M M':List Asr} {x y hi mx:Operand} {b o j jj N by_ c:Nat} {k k':IntKind} {cs:Array Value} {zz:Nat × Nat}
theorem aA.aDb {p q:Int} (he:jC P t=some e) (hs:dB P e=some sz) (hx:ev L x=some v) (hh:ev L hi=some (.int k p)) (hm:ev L mx=some (.int k' q)) (hr:aV (hp w) sz enc v l) (hp':p=l.length) (hq:q=l.length) :
    aA P n ds L (.slice t x none (some hi) (some mx)) ty w (vfull v) w:=fun a d pos af g hf=>by
  subst hp' hq
  simp only [execOp,hf.eval hx,Option.map_some,Option.map_none,hf.eval hh,hf.eval hm]
  obtain ⟨⟨h1,h2,A,c,rfl,h3⟩,hfit⟩:=hr
  have hfit:l.length≤c:=hfit
  have ht:=jh he
  have ht:P.underlying t=some (.slice (P.elem t)):=by rw [ht]; simp [Program.elem,ht]
  have hel:P.elem t=e:=by
    have:=jh he
    rw [this] at ht
    simpa using ht.symm
  have hsz:(sizeOf (P.elem t)).run P w=.ok sz w:=by rw [hel]; exact run_sizeOf hs
  refine mU ?_
  rw [run_sliceAt_slice _ _ _ _ _ _ ht,run_slice_hm _ _ _ _ _ ht _ _ _ _ (by omega) (by omega) (by omega),hsz]
  simp only [Result.andThen,sliced,vfull,Int.toNat_natCast,Nat.sub_zero,Nat.zero_mul]
  congr 2
  split
  · rfl
  · rename_i h0
    obtain ⟨p,cur,e',z',rfl,hsp,_⟩:=h3 (by omega)
    obtain ⟨g,o,s⟩:=p
    simp only at hsp; subst hsp; simp [gX]
theorem O.aCT {l':List T} {bo:Nat} (hf:Fr a n ds L) (hS:St w0 w X B M) (ho:ops[i]? = some ⟨some d,.call ⟨.builtin .append,#[x,y],#[t,t]⟩,ty,pos,af,none⟩) (hd:Nat.blt d n=true)
    (he:jC P t=some e) (hs:dB P e=some sz) (hby:pu P e=some by_) (hz:iQ P e=some z) (hzs:z.cells.size=sz) (h0:Nat.blt 0 sz=true) (hx:ev L x=some (vfull v)) (hy:ev L y=some (.slice (some ⟨bo,0,none⟩) N c))
    (hr:aV (hp w) sz enc v l) (hMs:M[jj]? = some (pt bo (.cells cs e zz))) (hl:cs.size=N*sz) (hcs:cs.toList=encs enc m) (hN:m.length=N) (h1:bV cs.toList=true) (hN0:Nat.blt 0 N=true) (hN1:Nat.ble N 1000=true) (hmax:(l.length:Int)≤4294967296) (hb:Nat.ble by_ 16000=true) (hl':l++m=l')
    (k:∀ v' w' a',St w0 w' X B (slE e sz enc v' l'::M)→Fr a' n ds ((d,v')::L)→O r P ops Q rest a' w'):O r P ops Q (i::rest) a w:=by
  subst hl'
  have hb:=Nat.le_of_ble_eq_true hb
  have hN1:=Nat.le_of_ble_eq_true hN1
  have hN0:0<N:=by simpa using hN0
  have h0:0<sz:=by simpa using h0
  have h9:(l.length+N)*by_≤140737488355328:=by
    refine Nat.le_trans (Nat.mul_le_mul (show l.length+N≤4294968296 by omega) hb) ?_
    decide
  have h63:l.length+N≤maxLen:=by unfold maxLen; omega
  unfold dB at hs
  unfold pu at hby
  unfold iQ at hz
  obtain ⟨inf,hi,hsz⟩:=Option.map_eq_some_iff.1 hs
  rw [hi] at hby hz
  simp only [Option.map_some,Option.some.injEq,Option.bind_some] at hby hz
  have hnews:∀ q u,cs.toList[q]? = some u→w.cell? (Addr.add ⟨bo,0,none⟩ q)=some u:=fun q u hu=>by
    rw [gX,vT (hS.wG hMs),← Array.getElem?_toList,Nat.zero_add]; exact hu
  have key:∃ v' w',(Builtin.append_ #[t,t] ty #[vfull v,.slice (some ⟨bo,0,none⟩) N c]).run P w=.ok v' w'∧w'.ownsRow w.heap.size e sz v' (l.length+N) (encs enc l++cs.toList)∧w.grownBy w' none:=by
    obtain ⟨⟨g1,g2,A,cc,rfl,g3⟩,hfit⟩:=hr
    cases A with
    | some b =>
      refine run_append_arg_grows (P:=P) w t ty e inf z sz by_ (jh he) hi hz hsz hby hzs h0 b l.length l.length (encs enc l) g1 (fun q u hu=>?_) ⟨bo,0,none⟩ N c cs.toList (by simpa using hl) hnews (by omega) h63 h9
      rcases Nat.eq_zero_or_pos l.length with h | h
      · have:=(List.getElem?_eq_some_iff.1 hu).1
        rw [g1,h,Nat.zero_mul] at this; omega
      · obtain ⟨p,cur,e',z',hp,hsp,hgb,hgc⟩:=g3 h
        injection hp with hp
        subst hp
        obtain ⟨g,o,s⟩:=b
        simp only at hsp hgb hgc
        subst hsp
        rw [gX,vT (show w.heap[g]? = some (.cells cur e' z') from hgb)]
        exact hgc q u hu
    | none =>
      have hl0:l.length=0:=by
        rcases Nat.eq_zero_or_pos l.length with h | h
        · exact h
        · obtain ⟨p,_,_,_,hp,_⟩:=g3 h; cases hp
      have hown:w.ownsRow w.heap.size e sz (.slice none 0 0) 0 []:=⟨by simp,.inl ⟨rfl,rfl⟩⟩
      obtain ⟨v',w1,h2,h3,h4,_,h5⟩:=run_append_own_at (P:=P) w w.heap.size t ty e inf z sz by_ (jh he) hi hz hsz hby hzs h0 (.slice none 0 0) 0 [] hown ⟨bo,0,none⟩ N c cs.toList (by simpa using hl) hnews (aAW h1) (by omega) (by rw [hl0] at h9; exact h9) (Nat.le_refl _)
      have hl1:l=[]:=List.length_eq_zero_iff.1 hl0
      subst hl1
      refine ⟨v',w1,h2,by simpa [encs] using h3,?_⟩
      simpa [Value.ownBlock] using h4
  obtain ⟨v',w1,h2,h3,h4⟩:=key
  refine O.val (w':=w1) (v:=v') hf ho rfl hd ?_ (fun a' hf'=>k v' w1 a' ?_ hf')
  · intro a d pos af g hf
    refine oH (vs:=[vfull v,.slice (some ⟨bo,0,none⟩) N c]) hf (by simp [evA,hx,hy]) ?_
    simp only [builtin]
    exact mU h2
  · refine hS.push h4.os h4.tape h4.output h4.size (fun q hq=>h4.block q hq (by simp)) ?_ (fun q hq=>?_)
    · have e1:slE e sz enc v' (l++m)=sl e sz v' (l.length+N) (encs enc l++cs.toList):=by
        unfold slE; rw [vz,hcs,List.length_append,hN]
      rw [e1]
      refine uU.2 ?_
      refine ⟨h3.1,?_⟩
      rcases h3.2 with h | ⟨g,cap,cur,h,_,hrest⟩
      · exact .inl h
      · exact .inr ⟨g,cap,cur,h,Nat.zero_le _,hrest⟩
    · have hq:v'.ownBlock=some q:=hq
      exact h3.lt q hq
end
end Go.SL

namespace Go.SL
open Go
section
variable {T:Type} {enc:T→List Value} {sz:Nat} {l:List T} {w w0:World} {X:Nat→Prop} {B M M':List Asr} {v:Value} {e:TypeId} {i j:Nat} {c:Bool} {p:Asr}
end
end Go.SL

namespace Go.SL
open Go
abbrev MTab:=List (Int × Int × Value)
def uJ (p q:Int):Value:=.agg #[.int .i64 p,.int .i64 q]
def zN {T:Type} (v:Value) (r:List T × Int × Int):Value:=.agg #[v,.int .i64 r.2.1,.int .i64 r.2.2]
def zw {T:Type} (e sz:Nat) (enc:T→List Value) (f:Int→Int→List T × Int × Int) (b:Nat) (tb:MTab) (h:Hp):Prop :=
  (∃ es clock,h b=some (.map es clock)∧es.toList.map (fun x=>(x.key,x.val))=tb.map fun t=>(uJ t.1 t.2.1,zN t.2.2 (f t.1 t.2.1))) ∧
  ∀ t ∈ tb,oQ h e sz t.2.2 (f t.1 t.2.1).1.length (encs enc (f t.1 t.2.1).1)
def cO {T:Type} (e sz:Nat) (enc:T→List Value) (f:Int→Int→List T × Int × Int) (b:Nat) (tb:MTab):Asr :=
  ⟨fun k=>k=b∨∃ t ∈ tb,t.2.2.ownBlock=some k,zw e sz enc f b tb,fun h h' hk ⟨⟨es,c,h1,h2⟩,h3⟩=>⟨⟨es,c,by rw [hk b (.inl rfl)]; exact h1,h2⟩,fun t ht=>(sl e sz t.2.2 _ _).loc h h' (fun k hk'=>hk k (.inr ⟨t,ht,hk'⟩)) (h3 t ht)⟩⟩
def oF {T:Type} (f:Int→Int→List T × Int × Int) (tb:MTab) (v:Value) (l:List T):Asr :=
  ⟨fun _=>False,fun _=>∃ t ∈ tb,t.2.2=v∧(f t.1 t.2.1).1=l,fun _ _ _ h=>h⟩
def aDB {T:Type} (w:World) (e sz:Nat) (enc:T→List Value) (f:Int→Int→List T × Int × Int) (b:Nat) (tb:MTab):Prop :=
  Lent w (cO e sz enc f b tb)
section
variable {T:Type} {enc:T→List Value} {sz:Nat} {l m:List T} {f:Int→Int→List T × Int × Int} {tb:MTab}
variable {r:Option Nat} {P:Program} {Q:Exit→Act→World→Prop} {ops:Array Oper} {i:Nat} {rest:List Nat} {a:Act} {w w0 w':World} {n:Nat} {ds:List Deferred} {L:List (Nat × Value)}
  {d:Nat} {op:Op} {ty t e kt:TypeId} {pos:String} {af:Array Edge} {v u z:Value} {X:Nat→Prop} {B M M':List Asr} {x y zz:Operand} {b o j jj:Nat} {k k':IntKind} {p q:Int} {A:Asr}
theorem St.aGN (h:Lent w A) (hB:∀ p ∈ B,Lent w p) (ha:∀ p ∈ B,∀ k,p.fp k→¬ A.fp k):St w w (fun k=>A.fp k) B [A] :=
  ⟨rfl,rfl,rfl,Nat.le_refl _,fun _ _ _=>rfl,⟨⟨h.1,fun k hk=>⟨h.2 k hk,.inl hk⟩,by simp⟩,trivial⟩,fun p hp=>⟨(hB p hp).1,fun k hk=>⟨(hB p hp).2 k hk,ha p hp k hk⟩⟩⟩
theorem St.aBV (hS:St w0 w X B M) (hi:M[i]? = some A):Lent w A:=⟨(hS.sep.get hi).1,fun b hb=>((hS.sep.get hi).2 b hb).1⟩
theorem St.aAn (hS:St w0 w X B M) (hi:M[i]? = some (cO e sz enc f b tb)) (hj:M[j]? = some (oF f tb v l)):aV (hp w) sz enc v l:=by
  obtain ⟨t,ht,rfl,rfl⟩:∃ t ∈ tb,t.2.2=v∧(f t.1 t.2.1).1=l:=hS.at_ hj
  have h2:zw e sz enc f b tb (hp w):=hS.at_ hi
  exact ⟨(h2.2 t ht).rd,(h2.2 t ht).fit⟩
theorem St.aGb (hS:St w0 w X B M) (hi:M[i]? = some (cO e sz enc f b tb)) (hj:M[j]? = some (oF f tb v l)) (hM:M.set i (slE e sz enc v l)=M'):St w0 w X B M':=by
  subst hM
  obtain ⟨t,ht,rfl,rfl⟩:∃ t ∈ tb,t.2.2=v∧(f t.1 t.2.1).1=l:=hS.at_ hj
  exact hS.conv hi (fun h=>h.2 t ht) (fun k hk=>.inr ⟨t,ht,hk⟩)
def aB8 (P:Program) (t:TypeId):Option (TypeId × Value) :=
  match P.underlying t with
  | some (.map k e)=>match aAN P k with
    | some (2,q)=>match xD P q,iQ P e with
      | some .i64,some z'=>if P.cellsOf q=1∧(P.info? q).isSome=true∧mo P q=some false∧dB P q=some 1 then some (k,z') else none
      | _,_=>none
    | _=>none
  | _=>none
theorem aAI (h:aB8 P t=some (kt,z)):∃ e q,P.underlying t=some (.map kt e)∧aAN P kt=some (2,q)∧xD P q=some .i64∧iQ P e=some z∧P.cellsOf q=1∧(P.info? q).isSome=true∧mo P q=some false∧dB P q=some 1:=by
  unfold aB8 at h
  split at h
  · rename_i k e hu
    split at h
    · rename_i q hq
      split at h
      · rename_i z' h1 h2
        split at h
        · rename_i hc
          simp only [Option.some.injEq,Prod.mk.injEq] at h
          obtain ⟨rfl,rfl⟩:=h
          exact ⟨e,q,hu,hq,h1,h2,hc.1,hc.2.1,hc.2.2.1,hc.2.2.2⟩
        · cases h
      · cases h
    · cases h
  · cases h
theorem wH {c:TypeId} (h1:aAN P kt=some (2,c)) (h2:xD P c=some .i64) (h5:mo P c=some false) (h6:dB P c=some 1) (em:Bool):(Instr.checkKey em 10000 kt (uJ p q)).run P w=.ok () w:=by
  have hp0:(part c #[.int .i64 p,.int .i64 q] 0).run P w=.ok (.int .i64 p) w:=nM.one (v:=.int .i64 p) h5 rfl w
  have hp1:(part c #[.int .i64 p,.int .i64 q] 1).run P w=.ok (.int .i64 q) w:=nM.one (v:=.int .i64 q) h5 rfl w
  have hc:∀ (v:Value),(Instr.checkKey em 9999 c v).run P w=.ok () w:=fun v=>by
    unfold Instr.checkKey
    simp only [Sem.run_bind,run_underlying (aBX h2),Result.andThen]
    rfl
  unfold Instr.checkKey uJ
  simp only [Sem.run_bind,run_underlying (zT h1),Result.andThen]
  simp [List.range',Sem.run_bind,run_sizeOf h6,hp0,hp1,hc,Result.andThen]
theorem aDc {c:TypeId} {p' q':Int} (h1:aAN P kt=some (2,c)) (h2:xD P c=some .i64) (h3:P.cellsOf c=1) (h4:(P.info? c).isSome=true) (h5:mo P c=some false):(Op.equal kt (uJ p q) (uJ p' q')).run P w=.ok (p == p'&&(q == q'&&true)) w:=by
  have hI:EqI P 9999 c 1 #[.int .i64 p,.int .i64 q] #[.int .i64 p',.int .i64 q'] [0,1] (p == p'&&(q == q'&&true)) :=
    EqI.cons (nM.one (v:=.int .i64 p) h5 rfl) (nM.one (v:=.int .i64 p') h5 rfl) (EqR.int h2) (EqI.cons (nM.one (v:=.int .i64 q) h5 rfl) (nM.one (v:=.int .i64 q') h5 rfl) (EqR.int h2) EqI.nil)
  have:=(EqR.arr (d:=9999) h1 h3 h4 hI) w
  simpa [Op.equal,Op.maxDepth,uJ] using this
def zf (p q:Int):List (Int × Int × Value)→Nat→Option (Nat × Int × Int × Value)
  | [],_=>none
  | x::t,i=>if p=x.1∧q=x.2.1 then some (i,x) else zf p q t (i+1)
theorem yV:∀ {tb:MTab} {i:Nat} {j:Nat × Int × Int × Value},zf p q tb i=some j→∃ m,j.1=i+m∧tb[m]? = some j.2∧j.2.1=p∧j.2.2.1=q
  | [],i,j,h=>by simp [zf] at h
  | x::t,i,j,h=>by
    simp only [zf] at h
    split at h
    · rename_i hx; simp only [Option.some.injEq] at h; subst h; exact ⟨0,rfl,rfl,hx.1.symm,hx.2.symm⟩
    · obtain ⟨m,h1,h2⟩:=yV h; exact ⟨m+1,by omega,by simpa using h2.1,h2.2⟩
theorem zB {c:TypeId} (h1:aAN P kt=some (2,c)) (h2:xD P c=some .i64) (h3:P.cellsOf c=1) (h4:(P.info? c).isSome=true) (h5:mo P c=some false):∀ (es:List MapEntry) (tb:MTab) (i:Nat),
    es.map (fun x=>(x.key,x.val))=tb.map (fun t=>(uJ t.1 t.2.1,zN t.2.2 (f t.1 t.2.1))) →
    (Instr.findAsking kt (uJ p q) es i).run P w=.ok ((zf p q tb i).map fun j=>(j.1,zN j.2.2.2 (f p q))) w
  | [],[],i,_=>rfl
  | [],_::_,_,h=>by simp at h
  | _::_,[],_,h=>by simp at h
  | x::es,t::tb,i,h=>by
    simp only [List.map_cons,List.cons.injEq,Prod.mk.injEq] at h
    have ih:=zB h1 h2 h3 h4 h5 es tb (i+1) h.2
    simp only [Instr.findAsking,Sem.run_bind,h.1.1,aDc h1 h2 h3 h4 h5,Result.andThen,Bool.and_true]
    by_cases hx:p=t.1∧q=t.2.1
    · obtain ⟨rfl,rfl⟩:=hx
      simp [zf,h.1.2]
    · have hb:(p == t.1&&q == t.2.1)=false:=by
        simp only [Bool.and_eq_false_iff,beq_eq_false_iff_ne,ne_eq]
        by_cases hp:p=t.1
        · exact .inr (fun hq=>hx ⟨hp,hq⟩)
        · exact .inl hp
      simp only [hb,Bool.false_eq_true,if_false,zf,hx]
      exact ih
theorem yE {c:TypeId} (h1:aAN P kt=some (2,c)) (h2:xD P c=some .i64) (h3:P.cellsOf c=1) (h4:(P.info? c).isSome=true) (h5:mo P c=some false) {es:List MapEntry} {tb:MTab}
    (h:es.map (fun x=>(x.key,x.val))=tb.map (fun t=>(uJ t.1 t.2.1,zN t.2.2 (f t.1 t.2.1)))) :
    (Instr.findKey kt (uJ p q) es).run P w=.ok ((zf p q tb 0).map fun j=>(j.1,zN j.2.2.2 (f p q))) w:=by
  unfold Instr.findKey
  simp only [Sem.run_bind,run_underlying (zT h1),Result.andThen]
  match es,tb,h with
  | [],[],_=>rfl
  | x::es,t::tb,h =>
    simp only [List.map_cons,List.cons.injEq,Prod.mk.injEq] at h
    have:Instr.findNow (.array 2 c) (uJ p q) (x::es) 0=none:=by simp [Instr.findNow,Instr.sameNow]
    rw [this]
    exact zB h1 h2 h3 h4 h5 (x::es) (t::tb) 0 (by simp [h])
theorem St.aEf (hS:St w0 w X B M) (hi:M[i]? = some (cO e sz enc f b tb)) (ht:aB8 P t=some (kt,z)) (p q:Int) :
    (∃ v,(∃ x ∈ tb,x.2.2=v∧(f x.1 x.2.1).1=(f p q).1)∧(Instr.lookup t (.map (some b)) (uJ p q) true).run P w=.ok (.tuple #[zN v (f p q),.bool true]) w) ∨
    (Instr.lookup t (.map (some b)) (uJ p q) true).run P w=.ok (.tuple #[z,.bool false]) w:=by
  obtain ⟨ee,c,g1,g2,g3,g4,g5,g6,g7,g8⟩:=aAI ht
  have h2:zw e sz enc f b tb (hp w):=hS.at_ hi
  obtain ⟨⟨es,cl,hb,hm⟩,hsl⟩:=h2
  have hb':w.heap[b]? = some (.map es cl):=hb
  have hL:∀ o,zf p q tb 0=o→(Instr.lookup t (.map (some b)) (uJ p q) true).run P w=(match o with | some j=>.ok (.tuple #[zN j.2.2.2 (f p q),.bool true]) w | none=>.ok (.tuple #[z,.bool false]) w):=fun o ho=>by
    unfold Instr.lookup
    simp only [Sem.run_bind,run_underlying g1,Result.andThen,MapKept.run_getObj_map hb',Sem.run_pure,wH g2 g3 g7 g8,yE g2 g3 g5 g6 g7 hm,ho]
    cases o with
    | none=>simp only [Option.map_none,Sem.run_bind,vD g4,Result.andThen,Sem.run_pure]; rfl
    | some j=>rfl
  cases ho:zf p q tb 0 with
  | none=>exact .inr (hL _ ho)
  | some j =>
    obtain ⟨m,_,hm',h3,h4⟩:=yV ho
    exact .inl ⟨j.2.2.2,⟨j.2,List.mem_of_getElem? hm',rfl,by rw [h3,h4]⟩,hL _ ho⟩
theorem aA.lk {c:Bool} {kv:Value} (hx:ev L x=some u) (hy:ev L y=some kv) (h:(Instr.lookup t u kv c).run P w=.ok v w):aA P n ds L (.lookup t x y c) ty w v w:=fun a d pos af g hf=>by
  simp only [execOp,hf.eval hx,hf.eval hy]
  exact mU h
theorem St.aGE (hS:St w0 w X B M) (h:∃ t ∈ tb,t.2.2=v∧(f t.1 t.2.1).1=l):St w0 w X B (oF f tb v l::M):=hS.aC3 (q:=oF f tb v l) h (fun _ h=>h)
theorem O.aDt (e sz:Nat) (enc:T→List Value) (f:Int→Int→List T × Int × Int) (hf:Fr a n ds L) (hS:St w0 w X B M) (ho:ops[i]? = some ⟨some d,.makeMap t none,ty,pos,af,none⟩) (hd:Nat.blt d n=true)
    (k:∀ b w' a',St w0 w' X B (cO e sz enc f b []::M)→Fr a' n ds ((d,.map (some b))::L)→O r P ops Q rest a' w'):O r P ops Q (i::rest) a w:=by
  refine O.val (w':=w.alloc (.map #[] 0)) hf ho rfl hd (v:=.map (some w.heap.size)) ?_ (fun a' hf'=>k _ _ a' ?_ hf')
  · intro a d pos af g hf
    simp only [execOp]
    exact mU rfl
  · refine (hS.alloc (.map #[] 0)).conv (i:=0) (p:=pt w.heap.size (.map #[] 0)) (q:=cO e sz enc f w.heap.size []) rfl (fun h=>⟨⟨#[],0,h,rfl⟩,by simp⟩) (fun b hb=>?_)
    rcases hb with hb | ⟨t,ht,_⟩
    · exact hb
    · simp at ht
theorem O.aFc {v1 v2:Int} (hf:Fr a n ds L) (hS:St w0 w X B (slE e sz enc v l::cO e sz enc f b tb::M)) (ho:ops[i]? = some ⟨none,.mapUpdate t x y zz,ty,pos,af,none⟩) (ht:aB8 P t=some (kt,z)) (hx:ev L x=some (.map (some b)))
    (hy:ev L y=some (.agg #[.int .i64 p,.int .i64 q])) (hz:ev L zz=some (.agg #[v,.int .i64 v1,.int .i64 v2])) (hfx:f p q=(l,v1,v2))
    (k:∀ tb' w',St w0 w' X B (oF f tb' v l::cO e sz enc f b tb'::M)→O r P ops Q rest a w'):O r P ops Q (i::rest) a w:=by
  obtain ⟨ee,c,g1,g2,g3,g4,g5,g6,g7,g8⟩:=aAI ht
  have hsl:oQ (hp w) e sz v l.length (encs enc l):=hS.at_ (i:=0) rfl
  have h2:zw e sz enc f b tb (hp w):=hS.at_ (i:=1) rfl
  obtain ⟨⟨es,cl,hb,hm⟩,hall⟩:=h2
  have hb':w.heap[b]? = some (.map es cl):=hb
  have hat:∀ es' c',hp (qB w b es' c') b=some (.map es' c'):=fun es' c'=>Array.getElem?_setIfInBounds_self_of_lt (Array.getElem?_eq_some_iff.1 hb').1
  have hne:∀ es' c' k,k≠b→hp (qB w b es' c') k=hp w k:=fun es' c' k hk=>by
    simp only [hp,SL.qB]; exact Array.getElem?_setIfInBounds_ne (fun e=>hk e.symm)
  have hdisj:∀ k,v.ownBlock=some k→¬ (k=b∨∃ t ∈ tb,t.2.2.ownBlock=some k):=fun k hk=>hS.sep.disj (i:=0) (j:=1) rfl rfl (by decide) k hk
  have hmap:∀ x:Int × Int × Value,x ∈ tb→x.2.2.ownBlock≠some b:=fun x hx hxb=>by
    have h3:=hall x hx
    rcases h3.2 with ⟨h4,_⟩ | ⟨g,cap,cur,h4,h5,_⟩
    · rw [h4] at hxb; simp [Value.ownBlock] at hxb
    · rw [h4] at hxb
      simp only [Value.ownBlock,Option.some.injEq] at hxb
      subst hxb
      rw [hb] at h5; simp at h5
  have hkeep:∀ es' c' (x:Value) (k:Nat) (xs:List Value),x.ownBlock≠some b→oQ (hp w) e sz x k xs→oQ (hp (qB w b es' c')) e sz x k xs:=fun es' c' x k xs hx h3 =>
    (sl e sz x k xs).loc _ _ (fun g hg=>hne es' c' g (fun e=>hx (by subst e; exact hg))) h3
  have hvb:v.ownBlock≠some b:=fun h=>hdisj b h (.inl rfl)
  have key:∃ es' c' tb',(Instr.mapUpdate t (.map (some b)) (uJ p q) (zN v (l,v1,v2))).run P w=.ok () (qB w b es' c')∧zw e sz enc f b tb' (hp (qB w b es' c'))∧(∀ x ∈ tb',x=(p,q,v)∨x ∈ tb)∧(p,q,v) ∈ tb':=by
    have hL:=yE (P:=P) (p:=p) (q:=q) (w:=w) g2 g3 g5 g6 g7 hm
    cases ho:zf p q tb 0 with
    | none =>
      rw [ho] at hL
      refine ⟨es.push { key:=uJ p q,val:=zN v (l,v1,v2),born:=cl },cl+1,tb++[(p,q,v)],?_,⟨⟨_,_,hat _ _,?_⟩,fun x hx=>?_⟩,fun x hx=>?_,by simp⟩
      · unfold Instr.mapUpdate
        simp only [Sem.run_bind,run_underlying g1,Result.andThen,MapKept.run_getObj_map hb',wH g2 g3 g7 g8,hL,Option.map_none,MapKept.run_setObj_map _ hb']
        rfl
      · simp [hm,hfx]
      · rcases List.mem_append.1 hx with hx | hx
        · exact hkeep _ _ _ _ _ (hmap x hx) (hall x hx)
        · simp only [List.mem_singleton] at hx
          subst hx
          simp only [hfx]
          exact hkeep _ _ _ _ _ hvb hsl
      · rcases List.mem_append.1 hx with hx | hx
        · exact .inr hx
        · simp only [List.mem_singleton] at hx; exact .inl hx
    | some j =>
      rw [ho] at hL
      obtain ⟨m,hj,hm',hp',hq'⟩:=yV ho
      obtain ⟨j1,j2⟩:=j
      simp only [Nat.zero_add] at hj hm' hp' hq'
      subst hj
      have hml:j1<tb.length:=(List.getElem?_eq_some_iff.1 hm').1
      have hsz:es.size=tb.length:=by have:=congrArg List.length hm; simpa using this
      have hen:∃ en,es[j1]? = some en∧en.key=uJ p q:=by
        have h1:(es.toList.map (fun x=>(x.key,x.val)))[j1]? = some (uJ j2.1 j2.2.1,zN j2.2.2 (f j2.1 j2.2.1)):=by rw [hm,List.getElem?_map,hm']; rfl
        rw [List.getElem?_map,Option.map_eq_some_iff] at h1
        obtain ⟨en,he,h2⟩:=h1
        simp only [Prod.mk.injEq] at h2
        exact ⟨en,by simpa using he,by rw [h2.1,hp',hq']⟩
      obtain ⟨en,hen,henk⟩:=hen
      refine ⟨es.modify j1 fun x=>{ x with key:=uJ p q,val:=zN v (l,v1,v2) },cl,tb.set j1 (p,q,v),?_,⟨⟨_,_,hat _ _,?_⟩,fun x hx=>?_⟩,fun x hx=>?_,?_⟩
      · unfold Instr.mapUpdate
        simp only [Sem.run_bind,run_underlying g1,Result.andThen,MapKept.run_getObj_map hb',wH g2 g3 g7 g8,hL,Option.map_some,hen,henk,Option.getD_some,Instr.keyThatStays]
        have:Instr.sameBits 10000 (uJ p q) (uJ p q)=true:=by simp [Instr.sameBits,uJ]
        simp only [this,if_true,Sem.run_pure,MapKept.run_setObj_map _ hb']
        rfl
      · apply List.ext_getElem?
        intro s
        have hms:(es.toList.map (fun x=>(x.key,x.val)))[s]? = (tb.map fun t=>(uJ t.1 t.2.1,zN t.2.2 (f t.1 t.2.1)))[s]?:=by rw [hm]
        simp only [List.getElem?_map,Array.getElem?_toList] at hms
        simp only [List.getElem?_map,Array.getElem?_toList,Array.getElem?_modify,List.getElem?_set]
        by_cases hs:j1=s
        · subst hs
          simp [hen,hml,hfx]
        · simp only [hs,if_false]; exact hms
      · rcases List.mem_or_eq_of_mem_set hx with hx | hx
        · exact hkeep _ _ _ _ _ (hmap x hx) (hall x hx)
        · subst hx
          simp only [hfx]
          exact hkeep _ _ _ _ _ hvb hsl
      · rcases List.mem_or_eq_of_mem_set hx with hx | hx
        · exact .inr hx
        · exact .inl hx
      · exact List.mem_iff_getElem?.2 ⟨j1,by rw [List.getElem?_set_self hml]⟩
  obtain ⟨es',c',tb',hr,hok,hsub,hin⟩:=key
  refine O.unit (w':=qB w b es' c') hf ho rfl ?_ (k tb' _ ?_)
  · intro a d pos af g hf
    simp only [execOp,hf.eval hx,hf.eval hy,hf.eval hz]
    exact aEA hr
  ·
    have hbl:=(hS.sep.get (i:=1) rfl).2 b (.inl rfl)
    have hfp:∀ k,(cO e sz enc f b tb').fp k→v.ownBlock=some k∨(cO e sz enc f b tb).fp k:=fun k hk=>by
      rcases hk with hk | ⟨x,hx,hxk⟩
      · exact .inr (.inl hk)
      · rcases hsub x hx with rfl | hx
        · exact .inl hxk
        · exact .inr (.inr ⟨x,hx,hxk⟩)
    have hsep:=hS.sep
    have hM2:=hsep.2.2
    have hlt:∀ k,(v.ownBlock=some k∨(cO e sz enc f b tb).fp k)→k<w.heap.size∧(X k∨w0.heap.size≤k):=fun k hk=>by
      rcases hk with hk | hk
      · exact (hsep.get (i:=0) rfl).2 k hk
      · exact (hsep.get (i:=1) rfl).2 k hk
    have hapart:∀ p ∈ M,∀ k,p.fp k→k≠b:=fun p hp k hk e=>by
      subst e
      exact hsep.2.1.2.2 p hp _ (.inl rfl) hk
    refine ⟨hS.os,hS.tape,hS.output,by simpa [SL.qB] using hS.size,fun k hk hX=>?_,?_,hS.bor⟩
    · have:k≠b:=fun e=>by
        subst e
        rcases hbl.2 with h | h
        · exact hX h
        · omega
      exact (hne es' c' k this).trans (hS.old k hk hX)
    · refine ⟨⟨⟨(p,q,v),hin,rfl,by rw [hfx]⟩,fun _ h=>h.elim,fun _ _ _ h=>h.elim⟩,⟨hok,fun k hk=>?_,fun p hp k hk hpk=>?_⟩,?_⟩
      · have:=hlt k (hfp k hk)
        simpa [SL.qB] using this
      · rcases hfp k hk with h | h
        · exact hsep.1.2.2 p (List.mem_cons_of_mem _ hp) _ h hpk
        · exact hsep.2.1.2.2 p hp _ h hpk
      · refine Sep.weak hM2 (fun p hp k hk=>hne es' c' k (hapart p hp k hk)) (by simp [SL.qB]) (fun _ _ h=>h)
end
end Go.SL

namespace Go.SL
open Go
section
variable {r:Option Nat} {P:Program} {Q:Exit→Act→World→Prop} {ops:Array Oper} {i:Nat} {rest:List Nat} {a:Act} {w:World} {n:Nat} {ds:List Deferred} {L:List (Nat × Value)}
  {op:Op} {ty:TypeId} {pos:String} {af:Array Edge} {dst:Option Tmp}
end
end Go.SL

namespace Go.SL
open Go
abbrev BTask:=Int × Int × Int × Int
abbrev BRun:=List (Int × Int) × Int × Int
def aBn (rest:Int→Int→BRun) (used e i:Int) (t:BTask) (b:BRun):BRun :=
  if bitand .i64 (Int.fdiv used (2^(min i.toNat 64))) 1≠0 then b else
  let s:=if t.1<e then e else t.1
  let en:=IntKind.i64.wrap (s+t.2.2.1)
  if en≤t.2.1 then
    let a:=rest (bitor .i64 used (IntKind.i64.wrap (1*2^(min i.toNat 64)))) en
    let v:=IntKind.i64.wrap (a.2.2+t.2.2.2)
    if v>b.2.2∨(v=b.2.2∧a.2.1<b.2.1) then ((i,s)::a.1,a.2.1,v) else b
  else b
def yP (rest:Int→Int→BRun) (l:List BTask) (used e:Int):Nat→BRun→Int→BRun
  | 0,b,_=>b
  | n+1,b,i=>if i<(l.length:Int) then match idx l i with
      | some t=>yP rest l used e n (aBn rest used e i t b) (IntKind.i64.wrap (i+1))
      | none=>b
    else b
def bC (F:Nat):Nat→List BTask→Int→Int→BRun
  | 0,_,_,e=>([],e,0)
  | n+1,l,used,e=>yP (bC F n l) l used e F ([],e,0) 0
end Go.SL

namespace Go.SL
open Go
section
variable {T:Type} {enc:T→List Value} {sz:Nat} {l m l':List T}
variable {r:Option Nat} {P:Program} {Q:Exit→Act→World→Prop} {ops:Array Oper} {i:Nat} {rest:List Nat} {a:Act} {w w0:World} {n:Nat} {ds:List Deferred} {L:List (Nat × Value)}
  {d:Nat} {ty t e:TypeId} {pos:String} {af:Array Edge} {v u z:Value} {X:Nat→Prop} {B M M':List Asr} {x y:Operand} {j k:Nat} {p1 p2:Int} {x0:T}
theorem aDZ (h0:0<sz) (he:∀ x,(enc x).length=sz) (hz:z.cells.toList=enc x0) (n:Nat):(Builtin.zeroCells z.cells n).toList=encs enc (List.replicate n x0):=by
  have hs:z.cells.size=sz:=by rw [← Array.length_toList,hz,he]
  rw [← yY h0 he hz]
  unfold Builtin.zeroCells madeCells
  rw [hs]
theorem aCM (he:jC P t=some e) (hs:dB P e=some sz) (hz:iQ P e=some z) (hz0:z.cells.toList=enc x0) (h0:0<sz) (hS:St w0 w X B M) (hM:M[j]? = some (slE e sz enc v l)) (henc:∀ x,(enc x).length=sz) (hone:∀ x,bV (enc x)=true)
    (hb:sbd p1 p2 (l.length:Int)) (hk:p2.toNat-p1.toNat=k) :
    ∃ w',(Builtin.clear_ #[t] ty #[vsub sz v p1 p2]).run P w=.ok (.tuple #[]) w'∧St w0 w' X B (M.set j (slE e sz enc v (lcopy l (List.replicate k x0) p1 k))):=by
  have hsl:=hS.slS hM
  have hu:=jh he
  obtain ⟨b1,b2,b3⟩:=hb
  obtain ⟨D,dc,hv⟩:∃ D dc,vsub sz v p1 p2=.slice D (p2.toNat-p1.toNat) dc:=by
    rcases hsl.2 with ⟨rfl,h0⟩ | ⟨g,cap,cur,rfl,_⟩ <;> exact ⟨_,_,rfl⟩
  rcases Nat.eq_zero_or_pos k with rfl | hk0
  · refine ⟨w,?_,?_⟩
    · rw [hv,hk]
      cases D <;> simp [Builtin.clear_,run_underlying hu]
    · have e1:lcopy l (List.replicate 0 x0) p1 0=l:=by simp [lcopy]
      rw [e1]
      have e2:M.set j (slE e sz enc v l)=M:=by
        apply List.ext_getElem?
        intro q
        by_cases hq:q=j
        · subst hq
          rw [List.getElem?_set_self (List.getElem?_eq_some_iff.1 hM).1,hM]
        · rw [List.getElem?_set_ne (fun h=>hq h.symm)]
      rw [e2]; exact hS
  · obtain ⟨g,cap,rfl⟩:=hsl.form (by omega)
    obtain ⟨cur,_,hg,hcs,htk,hcap,hmx⟩:=hsl.block
    have hv2:vsub sz (.slice (some ⟨g,0,none⟩) l.length cap) p1 p2=.slice (some ⟨g,p1.toNat*sz,none⟩) (p2.toNat-p1.toNat) (cap-p1.toNat):=by
      unfold vsub
      simp only
      rw [if_neg (by omega)]
      simp [gX]
    have htake:(List.replicate k x0).take k=List.replicate k x0:=by simp
    have hlen:(encs enc (List.replicate k x0)).length=k*sz:=by rw [ig henc,List.length_replicate]
    have hfit:p1.toNat*sz+0+(encs enc (List.replicate k x0)).length≤cur.size:=by
      rw [hlen,hcs,Nat.add_zero,← Nat.add_mul]
      exact Nat.mul_le_mul_right _ (by omega)
    have hst:=ru (P:=P) (b:=g) (o:=p1.toNat*sz) (e:=e) (encs enc (List.replicate k x0)) 0 w cur hg hfit (sW hone _)
    simp only [Nat.add_zero] at hst
    refine ⟨tT w g (.cells (wr cur (p1.toNat*sz) (encs enc (List.replicate k x0))) e (0,0)),?_,?_⟩
    · rw [hv2,hk]
      obtain ⟨k',rfl⟩:∃ k',k=k'+1:=⟨k-1,by omega⟩
      simp [Builtin.clear_,run_underlying hu,vD hz,aDZ h0 henc hz0,hst]
    · refine hS.write hM rfl rfl rfl (by rw [rG]; exact Nat.le_refl _) (fun b _ hb=>zU (fun e=>hb (by subst e; rfl))) ?_ (fun b hb=>⟨.inl hb,?_⟩)
      · have hll:(lcopy l (List.replicate k x0) p1 k).length=l.length:=by unfold lcopy; simp; omega
        refine ⟨by rw [ig henc],.inr ⟨g,cap,_,by rw [hll],xR hg,by rw [hll]; exact hcap,hmx,by rw [zX]; exact hcs,?_⟩⟩
        rw [hll]
        unfold lcopy
        rw [aAu henc (by omega) (by simp),htake]
        have h6:(p1.toNat*sz)+(encs enc (List.replicate k x0)).length≤l.length*sz:=by rw [hlen,← Nat.add_mul]; exact Nat.mul_le_mul_right _ (by omega)
        apply List.ext_getElem?
        intro s
        rw [yK (by rw [ig henc l]; exact h6),← htk,List.getElem?_take,Array.getElem?_toList,wL,List.getElem?_take,Array.getElem?_toList]
        have h7:l.length*sz≤cap*sz:=Nat.mul_le_mul_right _ hcap
        by_cases h8:s<l.length*sz
        · simp only [h8,if_true]
          by_cases h9:p1.toNat*sz≤s∧s<p1.toNat*sz+(encs enc (List.replicate k x0)).length
          · rw [if_pos h9,if_pos ⟨by omega,h9⟩]
          · rw [if_neg h9,if_neg (fun h=>h9 h.2),Array.getElem?_toList]
        · simp only [h8,if_false]
          rw [if_neg (by omega)]
      · have hb':some g=some b:=hb
        injection hb' with hb'
        subst hb'
        rw [rG]
        exact (Array.getElem?_eq_some_iff.1 hg).1
theorem O.aGY (hf:Fr a n ds L) (hS:St w0 w X B M) (ho:ops[i]? = some ⟨none,.call ⟨.builtin .clear,#[x],#[t]⟩,ty,pos,af,none⟩)
    (he:jC P t=some e) (hs:dB P e=some sz) (hz:iQ P e=some z) (hz0:z.cells.toList=enc x0) (h0:0<sz) (hx:ev L x=some (vsub sz v p1 p2)) (hM:M[j]? = some (slE e sz enc v l)) (henc:∀ x,(enc x).length=sz) (hone:∀ x,bV (enc x)=true)
    (hb:sbd p1 p2 (l.length:Int)) (hk:p2.toNat-p1.toNat=k) (hM':M.set j (slE e sz enc v (lcopy l (List.replicate k x0) p1 k))=M')
    (K:∀ w',St w0 w' X B M'→O r P ops Q rest a w'):O r P ops Q (i::rest) a w:=by
  subst hM'
  obtain ⟨w',h1,h2⟩:=aCM (P:=P) (ty:=ty) he hs hz hz0 h0 hS hM henc hone hb hk
  refine O.aHE (w':=w') (v:=.tuple #[]) hf ho rfl ?_ (K w' h2)
  intro a d pos af g hf
  refine oH (vs:=[vsub sz v p1 p2]) hf (by simp [evA,hx]) ?_
  simp only [builtin]
  exact mU h1
end
end Go.SL

namespace Go.SL
open Go
section
variable {P:Program} {Q:Exit→Act→World→Prop} {ops:Array Oper} {i:Nat} {rest:List Nat} {a:Act} {w w0:World} {n:Nat} {ds:List Deferred} {L:List (Nat × Value)}
  {d:Nat} {ty t:TypeId} {pos:String} {af:Array Edge} {v u z:Value} {X:Nat→Prop} {B M:List Asr} {x y:Operand} {f:FuncId} {fn:Func} {c:Code} {lv vs:List Value}
theorem LH.loop {r:Option Nat} {G:Type} (I:G→Act→World→Prop) (μ:G→Nat) (g:G) (h₀:I g a w)
    (round:∀ g a w,I g a w→W r P c (Exit.then (fun a' w'=>∃ g',I g' a' w'∧μ g'<μ g) Q) a w):LH r P c Q a w:=by
  have key:∀ j g a w,μ g=j→I g a w→LH r P c Q a w:=by
    intro j
    induction j using Nat.strongRecOn with
    | _ j ih =>
      intro g a w hn hI
      exact LH.step ((round g a w hI).mono (fun e a' w' hq=>by
        cases e with
        | normal =>
          obtain ⟨g',hI',hlt⟩:=hq
          exact ih (μ g') (hn▸hlt) g' a' w' rfl hI'
        | _=>exact hq))
  exact key _ g a w rfl h₀
def dfr (f:FuncId) (vs:List Value):Deferred:={ target:=.fn (.func f) #[],args:=vs.toArray }
theorem O.defer {args:Array Operand} {at_:Array TypeId} (hf:Fr a n ds L) (ho:ops[i]? = some ⟨none,.defer ⟨.value (.func f),args,at_⟩,ty,pos,af,none⟩) (hv:evA L args.toList=some vs)
    (k:∀ a',Fr a' n (dfr f vs::ds) L→O none P ops Q rest a' w):O none P ops Q (i::rest) a w:=by
  unfold O wpOpsIn
  simp only [ho]
  rw [if_pos (by simp [Region.wanted])]
  refine ⟨fun _ _=>trivial,?_⟩
  have h1:(Oper.semAt (FW none).round a.eval ⟨none,.defer ⟨.value (.func f),args,at_⟩,ty,pos,af,none⟩).run P w=.ok (.defer (dfr f vs)) w:=by
    show (execOp a.eval ⟨none,.defer ⟨.value (.func f),args,at_⟩,ty,pos,af,none⟩).run P w=_
    have h2:args.map a.eval=vs.toArray:=by
      apply Array.ext'; rw [Array.toList_map,hf.evA hv]
    simp [execOp,resolve,Deferred.ofValue,Act.eval,h2,dfr]
  rw [h1]
  exact k _ ⟨hf.size,by show dfr f vs::a.defers=_; rw [hf.defers],hf.get⟩
def tIface (P:Program) (t:TypeId):Bool:=match P.underlying t with
  | some (.interface _)=>true
  | _=>false
end
end Go.SL

namespace Go.SL
open Go
section
variable {r:Option Nat} {P:Program} {Q:Exit→Act→World→Prop} {ops:Array Oper} {i:Nat} {rest l:List Nat} {a:Act} {w w' w0:World} {n:Nat} {ds:List Deferred} {L:List (Nat × Value)}
  {d:Nat} {op:Op} {ty:TypeId} {v:Value} {y:Code} {id:Nat} {X:Nat→Prop} {B M N R:List Asr} {pp qq:Asr}
def mvk (L:List (Nat × Value)) (n:Nat):Option Oper→Option (Nat × Value)
  | some ⟨some d,.move x,_,_,_,none⟩=>match Nat.blt d n,ev L x with
    | true,some v=>some (d,v)
    | _,_=>none
  | some ⟨some d,.assign x,_,_,_,none⟩=>match Nat.blt d n,ev L x with
    | true,some v=>some (d,v)
    | _,_=>none
  | _=>none
theorem mv (hf:Fr a n ds L) (h:mvk L n ops[i]? = some (d,v)) (k:∀ a',Fr a' n ds ((d,v)::L)→O r P ops Q rest a' w):O r P ops Q (i::rest) a w:=by
  unfold mvk at h
  split at h
  · split at h
    · obtain ⟨rfl,rfl⟩:=Prod.mk.inj (Option.some.inj h)
      exact O.val hf (by assumption) rfl (by assumption) (aA.move (by assumption)) k
    · cases h
  · split at h
    · obtain ⟨rfl,rfl⟩:=Prod.mk.inj (Option.some.inj h)
      exact O.val hf (by assumption) rfl (by assumption) (aA.assign (by assumption)) k
    · cases h
  · cases h
def opk (n:Nat):Option Oper→Option (Nat × Op × TypeId)
  | some ⟨some d,op,ty,_,_,none⟩=>match jA op,Nat.blt d n with
    | true,true=>some (d,op,ty)
    | _,_=>none
  | _=>none
theorem ov (hf:Fr a n ds L) (h:opk n ops[i]? = some (d,op,ty)) (hr:aA P n ds L op ty w v w') (k:∀ a',Fr a' n ds ((d,v)::L)→O r P ops Q rest a' w'):O r P ops Q (i::rest) a w:=by
  unfold opk at h
  split at h
  · split at h
    · cases h
      exact O.val hf (by assumption) (by assumption) (by assumption) hr k
    · cases h
  · cases h
theorem nk (h:W r P y Q a w):O r P ops (Exit.then (W r P y Q) Q) [] a w:=O.nil (aP h)
theorem sg {ops:Array Oper} (hl:List.range ops.size=l) (h:O r P ops (Exit.then (W r P y Q) Q) l a w):W r P (.seq (.region id ops false) y) Q a w:=W.seq (W.aU hl h)
class App (A B:List Asr) (C:outParam (List Asr)):Prop where
  eq:A++B=C
instance App.nil:App [] B B:=⟨rfl⟩
instance App.cons [h:App N B R]:App (pp::N) B (pp::R):=⟨congrArg (pp::·) h.eq⟩
theorem St.cl [h:App N M R] (hS:St w0 w X B M) (hc:St w w' noX [] N):St w0 w' X B R:=h.eq▸hS.call hc
class Del (i:Nat) (M:List Asr) (p:outParam Asr) (R:outParam (List Asr)):Prop where
  get:M[i]? = some p
  eq:M.eraseIdx i=R
instance Del.zero:Del 0 (pp::M) pp M:=⟨rfl,rfl⟩
instance Del.succ [h:Del i M pp R]:Del (i+1) (qq::M) pp (qq::R):=⟨h.get,congrArg (qq::·) h.eq⟩
theorem St.fr (hS:St w0 w X B M) (i:Nat) [h:Del i M pp R]:St w0 w X B (pp::R):=hS.front h.get (congrArg (pp::·) h.eq)
theorem bl {a b:Nat} (h:Nat.ble a b=true):a≤b:=Nat.le_of_ble_eq_true h
theorem St.p {b:Nat} {o:Obj} (h:St w0 w X B M) (i:Nat) (hi:M[i]? = some (pt b o)):w.heap[b]? = some o:=h.wG hi
theorem St.b {T:Type} {sz:Nat} {enc:T→List Value} {l:List T} (h:St w0 w X B M) (j:Nat) (hi:B[j]? = some (rdE sz enc v l)):aV (hp w) sz enc v l:=h.rdB hi
theorem St.s {T:Type} {e sz:Nat} {enc:T→List Value} {l:List T} (h:St w0 w X B M) (j:Nat) (hi:M[j]? = some (slE e sz enc v l)):aV (hp w) sz enc v l:=h.rdS hi
theorem St.s0 (h:St w0 w X B M):St w0 w X B []:=h.sub (List.nil_sublist _)
class Sel (bs:List Nat) (M:List Asr) (N:outParam (List Asr)):Prop where
  sub:N.Sublist M
instance Sel.nil:Sel [] M []:=⟨List.nil_sublist _⟩
instance Sel.one {bs:List Nat} [h:Sel bs M N]:Sel (1::bs) (pp::M) (pp::N):=⟨h.sub.cons_cons _⟩
instance Sel.zero {bs:List Nat} [h:Sel bs M N]:Sel (0::bs) (pp::M) N:=⟨h.sub.cons _⟩
theorem St.sl (hS:St w0 w X B M) (bs:List Nat) [h:Sel bs M N]:St w0 w X B N:=hS.sub h.sub
def pk (L:List (Nat × Value)):List (Nat × Value)→List (Nat × Value)
  | []=>[]
  | (k,_)::t=>match lk L k with
    | some v=>(k,v)::pk L t
    | none=>[]
theorem aCj:∀ {L':List (Nat × Value)},pk L L'=L'→Subs L L'
  | [],_=>trivial
  | (k,v)::t,h=>by
    simp only [pk] at h
    split at h
    · rename_i u hu
      simp only [List.cons.injEq,Prod.mk.injEq,true_and] at h
      exact ⟨h.1▸hu,aCj h.2⟩
    · cases h
theorem Fr.q {L':List (Nat × Value)} (h:Fr a n ds L) (e:pk L L'=L'):Fr a n ds L':=h.to (aCj e)
def gpk (n:Nat) (L:List (Nat × Value)) (ops:Array Oper):Option Oper→Option (Nat × Op × TypeId × Bool × Bool)
  | some ⟨some d,op,ty,_,_,some (jj,want)⟩=>match (ops[jj]?).bind (·.dst) with
    | some dj=>match lk L dj,jA op,Nat.blt d n with
      | some (.bool c),true,true=>some (d,op,ty,c,want)
      | _,_,_=>none
    | none=>none
  | _=>none
theorem og {c want:Bool} (hf:Fr a n ds L) (h:gpk n L ops ops[i]? = some (d,op,ty,c,want)) (hc:c=want) (hr:aA P n ds L op ty w v w') (k:∀ a',Fr a' n ds ((d,v)::L)→O r P ops Q rest a' w'):O r P ops Q (i::rest) a w:=by
  unfold gpk at h
  split at h
  · split at h
    · split at h
      · cases h
        exact O.qW hf (by assumption) (by assumption) (by assumption) hc (by assumption) (by assumption) hr k
      · cases h
    · cases h
  · cases h
theorem sk {c want:Bool} (hf:Fr a n ds L) (h:gpk n L ops ops[i]? = some (d,op,ty,c,want)) (hc:c=!want) (k:∀ a',Fr a' n ds ((d,undef)::L)→O r P ops Q rest a' w):O r P ops Q (i::rest) a w:=by
  unfold gpk at h
  split at h
  · split at h
    · split at h
      · cases h
        exact O.gY hf (by assumption) (by assumption) (by assumption) hc (by assumption) k
      · cases h
    · cases h
  · cases h
def clk (n:Nat) (L:List (Nat × Value)):Option Oper→Option (Nat × FuncId × Array Value)
  | some ⟨some d,.call ⟨.value f,args,_⟩,_,_,_,none⟩=>match Nat.blt d n,ev L f,evA L args.toList with
    | true,some (.func (.func fid) first captured),some vs=>some (d,fid,(first.toList++(vs++captured.toList)).toArray)
    | _,_,_=>none
  | _=>none
theorem oc {f:FuncId} {av:Array Value} {G:Type} {u:G→Value} {R:G→World→Prop} (hf:Fr a n ds L) (h:clk n L ops[i]? = some (d,f,av)) (hk:au P f=true) (hc:Ret P f av w u R)
    (k:∀ g w',R g w'→∀ a',Fr a' n ds ((d,u g)::L)→O r P ops Q rest a' w'):O r P ops Q (i::rest) a w:=by
  unfold clk at h
  split at h
  · split at h
    · cases h
      exact O.wY hf (by assumption) rfl (by assumption) (tY.call hk (by assumption) (by assumption) (by apply Array.ext'; simp)) hc k
    · cases h
  · cases h
class SetA (j:Nat) (M:List Asr) (q:Asr) (M':outParam (List Asr)):Prop where
  eq:M.set j q=M'
instance SetA.zero:SetA 0 (pp::M) qq (qq::M):=⟨rfl⟩
instance SetA.succ {j:Nat} [h:SetA j M qq R]:SetA (j+1) (pp::M) qq (pp::R):=⟨congrArg (pp::·) h.eq⟩
theorem ost (j:Nat) (cs':Array Value) {b o m e:Nat} {t:TypeId} {x z:Operand} {pos:String} {af:Array Edge} {cs:Array Value} (hf:Fr a n ds L) (hS:St w0 w X B M) (ho:ops[i]? = some ⟨none,.store t x z,ty,pos,af,none⟩) (hx:ev L x=some (.pointer (some ⟨b,o,none⟩))) (hy:ev L z=some v)
    (hs:dB P t=some m) (hv:v.cells.size=m) (h1:bV v.cells.toList=true) (hM:M[j]? = some (pt b (.cells cs e (0,0)))) (hle:o+m≤cs.size) (hc:wr cs o v.cells.toList=cs') [h:SetA j M (pt b (.cells cs' e (0,0))) N]
    (k:∀ w',St w0 w' X B N→O r P ops Q rest a w'):O r P ops Q (i::rest) a w:=O.store hf hS ho hx hy hs hv h1 hM hle hc h.eq k
end
end Go.SL

namespace Go.SL
open Go
section
variable {w0 w w':World} {X X':Nat→Prop} {B M N:List Asr} {A1 A2:Asr} {i j:Nat}
end
end Go.SL

namespace Go.SL
open Go
section
variable {P:Program} {w w0:World} {n:Nat} {ds:List Deferred} {L:List (Nat × Value)} {ty t:TypeId} {x:Operand} {X:Nat→Prop} {B M:List Asr}
def World.setIter (w:World) (b:Nat) (s:ByteArray) (pos:Nat):World:={ w with heap:=w.heap.setIfInBounds b (.stringIter s pos) }
theorem St.setIter {i b pos pos':Nat} {s:ByteArray} (h:St w0 w X B M) (hi:M[i]? = some (pt b (.stringIter s pos))):St w0 (World.setIter w b s pos') X B (M.set i (pt b (.stringIter s pos'))):=by
  have hb:=h.wG hi
  have hlt:b<w.heap.size:=(Array.getElem?_eq_some_iff.1 hb).1
  refine h.write hi rfl rfl rfl (by simp [World.setIter]) (fun c hc hn=>?_) ?_ (fun c hc=>⟨.inl hc,?_⟩)
  · have hne:¬ b=c:=fun e=>hn (show c=b from e.symm)
    simp [World.setIter,Array.getElem?_setIfInBounds,hne]
  · show (World.setIter w b s pos').heap[b]? = _
    simp [World.setIter,Array.getElem?_setIfInBounds,hlt]
  · have:c=b:=hc
    subst this
    simpa [World.setIter] using hlt
end
end Go.SL

namespace Go.SL
open Go
def sget (ins:List Bool) (k:Int):Bool:=if k<0 then false else ins.getD k.toNat false
section
variable {r:Option Nat} {P:Program} {ops:Array Oper} {Q:Exit→Act→World→Prop} {a:Act} {w w0:World} {n:Nat} {ds:List Deferred} {L:List (Nat × Value)} {X:Nat→Prop} {B M M':List Asr}
  {d i j b:Nat} {ty t kt:TypeId} {pos:String} {af:Array Edge} {rest:List Nat} {x y z:Operand} {ins:List Bool} {k:Int}
end
end Go.SL

namespace Go.SL
open Go
section
variable {r:Option Nat} {P:Program} {ops:Array Oper} {Q:Exit→Act→World→Prop} {a:Act} {w w0:World} {n n':Nat} {ds:List Deferred} {L:List (Nat × Value)} {X:Nat→Prop} {B M M':List Asr}
  {d i j b:Nat} {op:Op} {ty t e:TypeId} {pos:String} {af:Array Edge} {rest:List Nat} {x y z:Operand} {f:FuncId}
def Exit.stl (Q:Exit→Act→World→Prop):Exit→Act→World→Prop
  | .goto _,_,_=>False
  | e,a,w=>Q e a w
end
end Go.SL

namespace Go.SL
open Go
section
variable {r:Option Nat} {P:Program} {ops:Array Oper} {i n:Nat} {ds:List Deferred} {L:List (Nat × Value)} {a:Act} {w:World}
theorem gt {d:Nat} {v:Value} (hf:Fr a n ds L) (h:jM ops i=some d) (hl:lk L d=some v):∀ d',jM ops i=some d'→a.tmps[d']? = some v:=fun d' h'=>by
  rw [h] at h'
  cases h'
  exact hf.get _ _ hl
theorem nG {R:Unit→Act→World→Prop} (hf:Fr a n ds L) (h:R () a w):O r P ops (fun e a' w'=>e=.normal∧∃ g,Fr a' n ds []∧R g a' w') [] a w:=O.nil ⟨rfl,(),hf.to trivial,h⟩
theorem lN {w':World} {b o m:Nat} {cs cs':Array Value} {e t ty:TypeId} {zz:Nat × Nat} {x:Operand} (hA:mo P t=some true∧dB P t=some m) (hx:ev L x=some (.pointer (some ⟨b,o,none⟩))) (hb:w'.heap[b]? = some (.cells cs e zz)) (hle:Nat.ble (o+m) cs.size=true) (hv:cs.extract o (o+m)=cs') :
    aA P n ds L (.load t x) ty w' (.agg cs') w':=aA.aBs hA.1 hA.2 hx hb (bl hle) hv
theorem mv2 {r:Option Nat} {Q:Exit→Act→World→Prop} {j d d':Nat} {v v':Value} {rest:List Nat} (hf:Fr a n ds L) (h:mvk L n ops[i]? = some (d,v)) (h':mvk ((d,v)::L) n ops[j]? = some (d',v')) (k:∀ a',Fr a' n ds ((d',v')::(d,v)::L)→O r P ops Q rest a' w):O r P ops Q (i::j::rest) a w:=mv hf h fun _ hf=>mv hf h' k
theorem ex {r:Option Nat} {Q:Exit→Act→World→Prop} {d q:Nat} {vs:Array Value} {x:Operand} {ty:TypeId} {v:Value} {rest:List Nat} (hf:Fr a n ds L) (h:opk n ops[i]? = some (d,.extract x q,ty)) (hx:ev L x=some (.tuple vs)) (hv:vs[q]? = some v) (k:∀ a',Fr a' n ds ((d,v)::L)→O r P ops Q rest a' w):O r P ops Q (i::rest) a w:=ov hf h (aA.extract hx hv) k
end
end Go.SL
