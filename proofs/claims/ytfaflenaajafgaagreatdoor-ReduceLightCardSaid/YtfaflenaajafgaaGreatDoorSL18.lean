/- Parts of slices: x[a:b] read, or told as a slice of the call's own; slices that are arguments and written; windows; copy. -/
import Derived.Test.YtfaflenaajafgaaGreatDoorSL17
import Derived.Laws.Slices
set_option linter.unusedVariables false
set_option linter.unusedSimpArgs false
namespace Go.SL
open Go
def vsub (sz:Nat) (v:Value) (a b:Int):Value :=
  match v with
  | .slice A _ c=>.slice (if c=a.toNat then A else A.map (·.add (a.toNat*sz))) (b.toNat-a.toNat) (c-a.toNat)
  | _=>undef
def lsub {T:Type} (l:List T) (a b:Int):List T:=(l.take b.toNat).drop a.toNat
def sbd (a b n:Int):Prop:=0≤a∧a≤b∧b≤n
instance (a b n:Int):Decidable (sbd a b n):=by unfold sbd; infer_instance
section
variable {T:Type} {enc:T→List Value} {sz:Nat} {l:List T} {h:Hp} {v:Value} {a b:Int} {x0:T}
theorem encs_take (he:∀ x,(enc x).length=sz):∀ (l:List T) (k:Nat),encs enc (l.take k)=(encs enc l).take (k*sz)
  | [],k=>by simp [encs]
  | x::t,0=>by simp [encs]
  | x::t,k+1=>by
    have ih:=encs_take he t k
    simp only [encs] at ih
    simp only [encs,List.take_succ_cons,List.flatMap_cons,ih]
    have h1:(k+1)*sz=sz+k*sz:=by rw [Nat.add_mul]; omega
    rw [List.take_append,he,h1,List.take_of_length_le (l:=enc x) (by rw [he]; omega),Nat.add_sub_cancel_left]
theorem encs_drop (he:∀ x,(enc x).length=sz):∀ (l:List T) (k:Nat),encs enc (l.drop k)=(encs enc l).drop (k*sz)
  | [],k=>by simp [encs]
  | x::t,0=>by simp
  | x::t,k+1=>by
    have ih:=encs_drop he t k
    simp only [encs] at ih
    simp only [encs,List.drop_succ_cons,List.flatMap_cons,ih]
    have h1:(k+1)*sz=sz+k*sz:=by rw [Nat.add_mul]; omega
    rw [List.drop_append,he,h1,List.drop_of_length_le (l:=enc x) (by rw [he]; omega),Nat.add_sub_cancel_left,List.nil_append]
theorem lsub_len (hb:sbd a b (l.length:Int)):(lsub l a b).length=b.toNat-a.toNat:=by
  unfold lsub; obtain ⟨h1,h2,h3⟩:=hb; simp; omega
theorem lsub_leni (hb:sbd a b (l.length:Int)):((lsub l a b).length:Int)=b-a:=by
  rw [lsub_len hb]; obtain ⟨h1,h2,h3⟩:=hb; omega
theorem lsub_get (hb:sbd a b (l.length:Int)) {j:Nat} (hj:j<b.toNat-a.toNat):(lsub l a b)[j]? = l[a.toNat+j]?:=by
  unfold lsub
  rw [List.getElem?_drop,List.getElem?_take,if_pos (by omega)]
theorem rdEOK.sub (hr:rdEOK h sz enc v l) (he:∀ x,(enc x).length=sz) (hb:sbd a b (l.length:Int)):rdEOK h sz enc (vsub sz v a b) (lsub l a b):=by
  obtain ⟨⟨h1,h2,A,c,rfl,h3⟩,hfit⟩:=hr
  have hfit:l.length≤c:=hfit
  have hl:=lsub_len hb
  obtain ⟨b1,b2,b3⟩:=hb
  refine ⟨⟨by rw [encs_len he],by omega,?_⟩,?_⟩
  · refine ⟨_,_,by rw [hl]; rfl,fun hn=>?_⟩
    rw [hl] at hn
    obtain ⟨p,cur,e,z,rfl,hs,hg,hc⟩:=h3 (by omega)
    refine ⟨p.add (a.toNat*sz),cur,e,z,?_,?_,?_,?_⟩
    · rw [if_neg (by omega)]; rfl
    · obtain ⟨g,o,s⟩:=p
      simp only at hs; subst hs; simp [add_none]
    · obtain ⟨g,o,s⟩:=p
      simp only at hs; subst hs; simpa [add_none] using hg
    · intro j u hu
      obtain ⟨g,o,s⟩:=p
      simp only at hs; subst hs
      simp only [add_none]
      rw [Nat.add_assoc]
      apply hc
      unfold lsub at hu
      rw [encs_drop he,encs_take he,List.getElem?_drop,List.getElem?_take] at hu
      split at hu
      · exact hu
      · cases hu
  · show b.toNat-a.toNat≤c-a.toNat
    omega
theorem vsub_own (hr:rdEOK h sz enc v l) (hl:0<(lsub l a b).length) (hb:sbd a b (l.length:Int)):(vsub sz v a b).ownBlock=v.ownBlock:=by
  obtain ⟨⟨h1,h2,A,c,rfl,h3⟩,hfit⟩:=hr
  have hfit:l.length≤c:=hfit
  rw [lsub_len hb] at hl
  obtain ⟨b1,b2,b3⟩:=hb
  obtain ⟨p,cur,e,z,rfl,hs,hg,hc⟩:=h3 (by omega)
  obtain ⟨g,o,s⟩:=p
  simp only at hs; subst hs
  unfold vsub
  simp only
  rw [if_neg (by omega)]
  simp [Value.ownBlock,add_none]
theorem slOK.sub {e:TypeId} (hs:slOK h e sz v l.length (encs enc l)) (he:∀ x,(enc x).length=sz) (hb:sbd 0 b (l.length:Int)):slOK h e sz (vsub sz v 0 b) (lsub l 0 b).length (encs enc (lsub l 0 b)):=by
  have hl:=lsub_len hb
  obtain ⟨b1,b2,b3⟩:=hb
  refine ⟨by rw [encs_len he],?_⟩
  rw [hl]
  rcases hs.2 with ⟨rfl,h0⟩ | ⟨g,cap,cur,rfl,hg,h1,h2,h3,h4⟩
  · have:b.toNat=0:=by omega
    refine .inl ⟨?_,by simp; omega⟩
    simp [vsub,this]
  · refine .inr ⟨g,cap,cur,?_,hg,by simp; omega,h2,h3,?_⟩
    · simp [vsub,add_none]
    · unfold lsub
      simp only [Int.toNat_zero,List.drop_zero,Nat.sub_zero]
      rw [encs_take he,← h4,List.take_take]
      congr 1
      have:b.toNat*sz≤l.length*sz:=Nat.mul_le_mul_right _ (by omega)
      omega
end
section
variable {T:Type} {enc:T→List Value} {sz:Nat} {l:List T} {x0:T}
variable {P:Program} {w w0:World} {n:Nat} {ds:List Deferred} {L:List (Nat × Value)} {ty t e:TypeId} {x y lo hi:Operand} {v:Value} {X:Nat→Prop} {B M M':List Asr} {p q:Int} {k k':IntKind} {j:Nat}
theorem run_sub (he:tElem P t=some e) (hs:tSize P e=some sz) (hr:rdEOK (hp w) sz enc v l) (lo' hi':Option Value)
    (hb:sbd p q (l.length:Int)) (hlo:lo'=none∧p=0∨∃ k,lo'=some (.int k p)) (hhi:hi'=none∧q=l.length∨∃ k,hi'=some (.int k q)) :
    (Instr.sliceAt t v lo' hi' none).run P w=.ok (vsub sz v p q) w:=by
  obtain ⟨⟨h1,h2,A,c,rfl,h3⟩,hfit⟩:=hr
  have hfit:l.length≤c:=hfit
  obtain ⟨b1,b2,b3⟩:=hb
  have ht:=und_elem he
  have ht:P.underlying t=some (.slice (P.elem t)):=by rw [ht]; simp [Program.elem,ht]
  have hel:P.elem t=e:=by
    have:=und_elem he
    rw [this] at ht
    simpa using ht.symm
  rw [run_sliceAt_slice _ _ _ _ _ _ ht]
  have hsz:(sizeOf (P.elem t)).run P w=.ok sz w:=by rw [hel]; exact run_sizeOf hs
  rcases hlo with ⟨rfl,rfl⟩ | ⟨k,rfl⟩ <;> rcases hhi with ⟨rfl,rfl⟩ | ⟨k',rfl⟩
  · rw [run_slice_all _ _ _ _ _ ht,hsz]; simp [sliced,vsub,Result.andThen]
  · rw [run_slice_h _ _ _ _ _ ht _ _ b2 (by omega),hsz]; simp [sliced,vsub,Result.andThen]
  · rw [run_slice_l _ _ _ _ _ ht _ _ b1 (by omega),hsz]; simp [sliced,vsub,Result.andThen]
  · rw [run_slice_lh _ _ _ _ _ ht _ _ _ _ b1 b2 (by omega),hsz]; simp [sliced,vsub,Result.andThen]
theorem Z.sliceH (he:tElem P t=some e) (hs:tSize P e=some sz) (hx:ev L x=some v) (hh:ev L hi=some (.int k q)) (hr:rdEOK (hp w) sz enc v l) (hb:sbd 0 q (l.length:Int)) :
    RunV P n ds L (.slice t x none (some hi) none) ty w (vsub sz v 0 q) w:=fun a d pos af g hf=>by
  simp only [execOp,hf.eval hx,Option.map_some,Option.map_none,hf.eval hh]
  exact run_v (run_sub he hs hr _ _ hb (.inl ⟨rfl,rfl⟩) (.inr ⟨k,rfl⟩))
theorem Z.sliceL (he:tElem P t=some e) (hs:tSize P e=some sz) (hx:ev L x=some v) (hh:ev L lo=some (.int k p)) (hr:rdEOK (hp w) sz enc v l) (hb:sbd p (l.length:Int) (l.length:Int)) :
    RunV P n ds L (.slice t x (some lo) none none) ty w (vsub sz v p (l.length:Int)) w:=fun a d pos af g hf=>by
  simp only [execOp,hf.eval hx,Option.map_some,Option.map_none,hf.eval hh]
  exact run_v (run_sub he hs hr _ _ hb (.inr ⟨k,rfl⟩) (.inl ⟨rfl,rfl⟩))
theorem Z.sliceLH (he:tElem P t=some e) (hs:tSize P e=some sz) (hx:ev L x=some v) (hl:ev L lo=some (.int k p)) (hh:ev L hi=some (.int k' q)) (hr:rdEOK (hp w) sz enc v l) (hb:sbd p q (l.length:Int)) :
    RunV P n ds L (.slice t x (some lo) (some hi) none) ty w (vsub sz v p q) w:=fun a d pos af g hf=>by
  simp only [execOp,hf.eval hx,Option.map_some,Option.map_none,hf.eval hl,hf.eval hh]
  exact run_v (run_sub he hs hr _ _ hb (.inr ⟨k,rfl⟩) (.inr ⟨k',rfl⟩))
theorem St.takeS (hS:St w0 w X B M) (hM:M[j]? = some (slE e sz enc v l)) (he:∀ x,(enc x).length=sz) (hb:sbd 0 q (l.length:Int)) (hM':M.set j (slE e sz enc (vsub sz v 0 q) (lsub l 0 q))=M'):St w0 w X B M':=by
  subst hM'
  refine hS.conv hM (fun h=>slOK.sub h he hb) (fun k hk=>?_)
  have hk:(vsub sz v 0 q).ownBlock=some k:=hk
  show v.ownBlock=some k
  rcases (hS.slS hM).2 with ⟨rfl,h0⟩ | ⟨g,cap,cur,rfl,_⟩
  · simp [vsub,Value.ownBlock] at hk
  · rw [← hk]; simp [vsub,Value.ownBlock,add_none]
end
end Go.SL
namespace Go.SL
open Go
section
variable {T:Type} {enc:T→List Value} {sz:Nat} {l m:List T} {h:Hp} {v u:Value} {a b p q:Int} {x0:T} {k:Nat}
theorem ix_vsub {c:Nat} (hr:rdEOK h sz enc v l) (hb:sbd a b (l.length:Int)) (hl:0<(lsub l a b).length):ix (vsub sz v a b) c=ix v (a.toNat*sz+c):=by
  obtain ⟨⟨h1,h2,A,cc,rfl,h3⟩,hfit⟩:=hr
  have hfit:l.length≤cc:=hfit
  rw [lsub_len hb] at hl
  obtain ⟨b1,b2,b3⟩:=hb
  obtain ⟨g,cur,e,z,rfl,hs,hg,hc⟩:=h3 (by omega)
  obtain ⟨g,o,s⟩:=g
  simp only at hs; subst hs
  unfold vsub ix
  simp only
  rw [if_neg (by omega)]
  simp [add_none,Nat.add_assoc]
theorem idx_lsub (hb:sbd a b (l.length:Int)) (hi:idx (lsub l a b) p=some x0):idx l (a+p)=some x0:=by
  obtain ⟨h1,h2,h3⟩:=idx_some hi
  rw [lsub_len hb] at h2
  rw [lsub_get hb h2] at h3
  obtain ⟨b1,b2,b3⟩:=hb
  unfold idx
  rw [if_pos (by omega)]
  rw [← h3]; congr 1; omega
end
section
variable {T:Type} {enc:T→List Value} {sz:Nat} {l m:List T} {x0:T}
variable {r:Option Nat} {P:Program} {Q:Exit→Act→World→Prop} {ops:Array Oper} {i:Nat} {rest:List Nat} {a:Act} {w w0 w':World} {n:Nat} {ds:List Deferred} {L:List (Nat × Value)}
  {d:Nat} {op:Op} {ty t e:TypeId} {pos:String} {af:Array Edge} {v u z:Value} {X:Nat→Prop} {B M M':List Asr} {x y:Operand} {b o j:Nat} {k:IntKind} {p p1 p2:Int} {q q':Asr}
theorem Z.ixW (he:tElem P t=some e) (hs:tSize P e=some sz) (hx:ev L x=some (vsub sz v p1 p2)) (hy:ev L y=some (.int k p)) (hr:rdEOK (hp w) sz enc v l) (henc:∀ x,(enc x).length=sz) (hb:sbd p1 p2 (l.length:Int)) (hi:idx (lsub l p1 p2) p=some x0) :
    RunV P n ds L (.indexAddr t x y) ty w (ix v (Int.toNat (p1+p)*sz)) w:=by
  have h1:=Z.ixE (P:=P) (n:=n) (ds:=ds) (ty:=ty) he hs hx hy (hr.sub henc hb) hi
  obtain ⟨h2,h3,_⟩:=idx_some hi
  rw [ix_vsub hr hb (by omega)] at h1
  have h4:p1.toNat*sz+p.toNat*sz=Int.toNat (p1+p)*sz:=by
    rw [← Nat.add_mul]; congr 1
    obtain ⟨b1,b2,b3⟩:=hb
    omega
  rwa [h4] at h1
theorem St.ownE (h:slOK (hp w) e sz v l.length (encs enc l)) (hB:∀ p ∈ B,Lent w p) (ha:∀ p ∈ B,∀ k,p.fp k→¬ (slE e sz enc v l).fp k):St w w (fun k=>v.ownBlock=some k) B [slE e sz enc v l] :=
  ⟨rfl,rfl,rfl,Nat.le_refl _,fun _ _ _=>rfl,⟨⟨h,fun b hb=>⟨((slOK_iff.1 h).lt b hb).2,.inl hb⟩,by simp⟩,trivial⟩,fun p hp=>⟨(hB p hp).1,fun k hk=>⟨(hB p hp).2 k hk,ha p hp k hk⟩⟩⟩
theorem apAll_nil:∀ p ∈ ([]:List Asr),∀ k,p.fp k→¬ q.fp k:=by simp
theorem apAll_cons (h1:∀ k,q'.fp k→¬ q.fp k) (h2:∀ p ∈ B,∀ k,p.fp k→¬ q.fp k):∀ p ∈ q'::B,∀ k,p.fp k→¬ q.fp k:=fun p hp=>by
  rcases List.mem_cons.1 hp with rfl | hp
  · exact h1
  · exact h2 p hp
theorem St.apMM (hS:St w0 w X B M) (hi:M[i]? = some q) (hj:M[j]? = some q') (hne:j≠i):∀ k,q'.fp k→¬ q.fp k:=fun k h1=>hS.sep.disj hj hi hne k h1
theorem apRd (h:∀ k,(slE e sz enc v l).fp k→¬ q.fp k):∀ k,(rdE sz enc v l).fp k→¬ q.fp k:=fun k hk=>h k hk.2
theorem apWin (hr:rdEOK (hp w) sz enc v l) (hb:sbd p1 p2 (l.length:Int)) (h:∀ k,(rdE sz enc v l).fp k→¬ q.fp k):∀ k,(rdE sz enc (vsub sz v p1 p2) (lsub l p1 p2)).fp k→¬ q.fp k:=fun k hk=>h k ⟨by
  have h1:0<(lsub l p1 p2).length:=hk.1
  rw [lsub_len hb] at h1
  obtain ⟨b1,b2,b3⟩:=hb
  omega,by
  have h1:0<(lsub l p1 p2).length:=hk.1
  have h2:(vsub sz v p1 p2).ownBlock=some k:=hk.2
  rwa [vsub_own hr h1 hb] at h2⟩
theorem O.makeCapE {by_:Nat} {k1 k2:IntKind} {p c:Int} {x0:T} (hf:Fr a n ds L) (hS:St w0 w X B M) (ho:ops[i]? = some ⟨some d,.makeSlice t x y,ty,pos,af,none⟩) (hd:Nat.blt d n=true)
    (he:tElem P t=some e) (hs:tSize P e=some sz) (hby:tBytes P e=some by_) (hz:tZero P e=some z) (h0:Nat.blt 0 sz=true) (hx:ev L x=some (.int k1 p)) (hy:ev L y=some (.int k2 c)) (hp:0≤p∧p≤c∧c≤4294967296) (hb:Nat.ble by_ 32000=true) (henc:∀ x,(enc x).length=sz) (hz0:z.cells.toList=enc x0)
    (k:∀ v w' a',St w0 w' X B (slE e sz enc v (List.replicate p.toNat x0)::M)→Fr a' n ds ((d,v)::L)→O r P ops Q rest a' w'):O r P ops Q (i::rest) a w:=by
  have hb:=Nat.le_of_ble_eq_true hb
  have h9:by_*c.toNat≤140737488355328:=by
    refine Nat.le_trans (Nat.mul_le_mul hb (show c.toNat≤4294967296 by omega)) ?_
    decide
  unfold tSize at hs
  unfold tBytes at hby
  unfold tZero at hz
  obtain ⟨inf,hi,hsz⟩:=Option.map_eq_some_iff.1 hs
  rw [hi] at hby hz
  simp only [Option.map_some,Option.some.injEq,Option.bind_some] at hby hz
  subst hsz
  subst hby
  have hbb:(inf.bytes:Int)*c≤281474976710656:=by
    have h:((inf.bytes*c.toNat:Nat):Int)≤281474976710656:=by omega
    rw [Int.natCast_mul] at h
    have:((c.toNat:Nat):Int)=c:=by omega
    rwa [this] at h
  have hr:=run_make (P:=P) w t e inf z (und_elem he) hi hz k1 k2 p c (by omega) (by omega) hbb (by omega)
  refine O.val (w':=w.alloc (.cells (madeCells z.cells (c.toNat*inf.size)) e)) (v:=.slice (some ⟨w.heap.size,0,none⟩) p.toNat c.toNat) hf ho rfl hd ?_ (fun a' hf'=>k _ _ a' ?_ hf')
  · intro a d pos af g hf
    simp only [execOp,hf.eval hx,hf.eval hy]
    exact run_v hr
  · refine hS.push rfl rfl rfl (by simp) (fun b hb=>heap_alloc_old w _ b hb) ?_ (fun b hb=>?_)
    · have hlen:(madeCells z.cells (c.toNat*inf.size)).size=c.toNat*inf.size:=by simp [madeCells]
      refine ⟨by rw [encs_len henc],.inr ⟨w.heap.size,c.toNat,_,by rw [List.length_replicate],heap_alloc_new w _,by rw [List.length_replicate]; omega,by unfold maxLen; omega,hlen,?_⟩⟩
      have e1:List.replicate p.toNat x0=(List.replicate c.toNat x0).take p.toNat:=by
        rw [List.take_replicate]; congr 1; omega
      rw [made_encs (by simpa using h0) henc hz0,List.length_replicate,e1,encs_take henc]
    · have hb:some w.heap.size=some b:=hb
      injection hb with hb
      subst hb
      exact ⟨Nat.le_refl _,by simp⟩
end
end Go.SL
namespace Go.SL
open Go
def lcopy {T:Type} (l m:List T) (a:Int) (k:Nat):List T:=l.take a.toNat++m.take k++l.drop (a.toNat+k)
section
variable {T:Type} {enc:T→List Value} {sz:Nat} {l m:List T} {h:Hp} {v u:Value} {p1 p2:Int} {e:TypeId}
theorem encs_copy (he:∀ x,(enc x).length=sz) {k a:Nat} (ha:a+k≤l.length) (hk:k≤m.length):encs enc (l.take a++m.take k++l.drop (a+k))=spl (encs enc l) (a*sz) (encs enc (m.take k)):=by
  rw [encs_app,encs_app,encs_take he,encs_drop he]
  unfold spl
  have h1:(encs enc (m.take k)).length=k*sz:=by rw [encs_len he,List.length_take]; congr 1; omega
  rw [h1,Nat.add_mul]
end
section
variable {T:Type} {enc:T→List Value} {sz:Nat} {l m l':List T}
variable {r:Option Nat} {P:Program} {Q:Exit→Act→World→Prop} {ops:Array Oper} {i:Nat} {rest:List Nat} {a:Act} {w w0:World} {n:Nat} {ds:List Deferred} {L:List (Nat × Value)}
  {d:Nat} {ty t e:TypeId} {pos:String} {af:Array Edge} {v u:Value} {X:Nat→Prop} {B M M':List Asr} {x y:Operand} {j k:Nat} {p1 p2:Int}
theorem run_copyW (he:tElem P t=some e) (hs:tSize P e=some sz) (hS:St w0 w X B M) (hM:M[j]? = some (slE e sz enc v l)) (hr:rdEOK (hp w) sz enc u m) (henc:∀ x,(enc x).length=sz) (hone:∀ x,oneCells (enc x)=true)
    (hb:sbd p1 p2 (l.length:Int)) (hk:min m.length (p2.toNat-p1.toNat)=k) :
    ∃ w',(Builtin.copy_ #[t,t] ty #[vsub sz v p1 p2,u]).run P w=.ok (.int .i64 (k:Int)) w'∧St w0 w' X B (M.set j (slE e sz enc v (lcopy l m p1 k))):=by
  have hsl:=hS.slS hM
  obtain ⟨⟨hm1,hm2,A,cm,rfl,hm3⟩,hmf⟩:=hr
  have hu:=und_elem he
  have hz:(sizeOf e).run P w=.ok sz w:=run_sizeOf hs
  obtain ⟨b1,b2,b3⟩:=hb
  obtain ⟨D,dc,hv⟩:∃ D dc,vsub sz v p1 p2=.slice D (p2.toNat-p1.toNat) dc:=by
    rcases hsl.2 with ⟨rfl,h0⟩ | ⟨g,cap,cur,rfl,_⟩ <;> exact ⟨_,_,rfl⟩
  have hmin:Nat.min m.length (p2.toNat-p1.toNat)=k:=hk
  rcases Nat.eq_zero_or_pos k with rfl | hk0
  · refine ⟨w,?_,?_⟩
    · have hl:∀ (x:Addr),(loadCells x 0).run P w=.ok #[] w:=fun x=>by simpa using run_loadCells_list (P:=P) w x [] (by simp)
      rw [hv]
      cases D <;> cases A <;> simp [Builtin.copy_,run_underlying hu,Builtin.lenOf,Builtin.firstCells,hz,hmin,storeCells,hl,goInt]
    · have e1:lcopy l m p1 0=l:=by simp [lcopy]
      rw [e1]
      have e2:M.set j (slE e sz enc v l)=M:=by
        apply List.ext_getElem?
        intro q
        by_cases hq:q=j
        · subst hq
          rw [List.getElem?_set_self (List.getElem?_eq_some_iff.1 hM).1,hM]
        · rw [List.getElem?_set_ne (fun h=>hq h.symm)]
      rw [e2]; exact hS
  · obtain ⟨g,cap,rfl⟩:=hsl.form (by omega)
    obtain ⟨cur,_,hg,hcs,htk,hcap,hmx⟩:=hsl.block
    obtain ⟨am,curm,em,zm,rfl,hsm,hbm,hcm⟩:=hm3 (by omega)
    obtain ⟨gm,om,sm⟩:=am
    simp only at hsm hbm hcm
    subst hsm
    have hv2:vsub sz (.slice (some ⟨g,0,none⟩) l.length cap) p1 p2=.slice (some ⟨g,p1.toNat*sz,none⟩) (p2.toNat-p1.toNat) (cap-p1.toNat):=by
      unfold vsub
      simp only
      rw [if_neg (by omega)]
      simp [add_none]
    have hlen:(encs enc (m.take k)).length=k*sz:=by rw [encs_len henc,List.length_take]; congr 1; omega
    have hld:(loadCells ⟨gm,om,none⟩ (k*sz)).run P w=.ok (encs enc (m.take k)).toArray w:=by
      have:=run_loadCells_list (P:=P) w ⟨gm,om,none⟩ (encs enc (m.take k)) (fun q x hq=>by
        rw [encs_take henc,List.getElem?_take] at hq
        split at hq
        · have h5:=hcm q x hq
          rw [add_none]
          rw [cell_at (show w.heap[gm]? = some (.cells curm em zm) from hbm)]
          exact h5
        · cases hq)
      rwa [hlen] at this
    have hfit:p1.toNat*sz+0+(encs enc (m.take k)).length≤cur.size:=by
      rw [hlen,hcs,Nat.add_zero,← Nat.add_mul]
      exact Nat.mul_le_mul_right _ (by omega)
    have hst:=run_storeCells (P:=P) (b:=g) (o:=p1.toNat*sz) (e:=e) (encs enc (m.take k)) 0 w cur hg hfit (oneCells_encs hone _)
    simp only [Nat.add_zero] at hst
    refine ⟨setB w g (.cells (wr cur (p1.toNat*sz) (encs enc (m.take k))) e (0,0)),?_,?_⟩
    · rw [hv2]
      simp [Builtin.copy_,run_underlying hu,Builtin.lenOf,Builtin.firstCells,hz,hmin,hld,hst,goInt]
    · refine hS.write hM rfl rfl rfl (by rw [setB_size]; exact Nat.le_refl _) (fun b _ hb=>setB_ne (fun e=>hb (by subst e; rfl))) ?_ (fun b hb=>⟨.inl hb,?_⟩)
      · have hll:(lcopy l m p1 k).length=l.length:=by unfold lcopy; simp; omega
        refine ⟨by rw [encs_len henc],.inr ⟨g,cap,_,by rw [hll],setB_at hg,by rw [hll]; exact hcap,hmx,by rw [size_wr]; exact hcs,?_⟩⟩
        rw [hll]
        unfold lcopy
        rw [encs_copy henc (by omega) (by omega)]
        have h6:(p1.toNat*sz)+(encs enc (m.take k)).length≤l.length*sz:=by rw [hlen,← Nat.add_mul]; exact Nat.mul_le_mul_right _ (by omega)
        apply List.ext_getElem?
        intro s
        rw [spl_get (by rw [encs_len henc l]; exact h6),← htk,List.getElem?_take,Array.getElem?_toList,wr_toList,List.getElem?_take,Array.getElem?_toList]
        have h7:l.length*sz≤cap*sz:=Nat.mul_le_mul_right _ hcap
        by_cases h8:s<l.length*sz
        · simp only [h8,if_true]
          by_cases h9:p1.toNat*sz≤s∧s<p1.toNat*sz+(encs enc (m.take k)).length
          · rw [if_pos h9,if_pos ⟨by omega,h9⟩]
          · rw [if_neg h9,if_neg (fun h=>h9 h.2),Array.getElem?_toList]
        · simp only [h8,if_false]
          rw [if_neg (by omega)]
      · have hb':some g=some b:=hb
        injection hb' with hb'
        subst hb'
        rw [setB_size]
        exact (Array.getElem?_eq_some_iff.1 hg).1
theorem O.copyW (hf:Fr a n ds L) (hS:St w0 w X B M) (ho:ops[i]? = some ⟨some d,.call ⟨.builtin .copy,#[x,y],#[t,t]⟩,ty,pos,af,none⟩) (hd:Nat.blt d n=true)
    (he:tElem P t=some e) (hs:tSize P e=some sz) (hx:ev L x=some (vsub sz v p1 p2)) (hy:ev L y=some u) (hM:M[j]? = some (slE e sz enc v l)) (hr:rdEOK (hp w) sz enc u m) (henc:∀ x,(enc x).length=sz) (hone:∀ x,oneCells (enc x)=true)
    (hb:sbd p1 p2 (l.length:Int)) (hk:min m.length (p2.toNat-p1.toNat)=k) (hM':M.set j (slE e sz enc v (lcopy l m p1 k))=M')
    (K:∀ w' a',St w0 w' X B M'→Fr a' n ds ((d,.int .i64 (k:Int))::L)→O r P ops Q rest a' w'):O r P ops Q (i::rest) a w:=by
  subst hM'
  obtain ⟨w',h1,h2⟩:=run_copyW (P:=P) (ty:=ty) he hs hS hM hr henc hone hb hk
  refine O.val (w':=w') (v:=.int .i64 (k:Int)) hf ho rfl hd ?_ (fun a' hf'=>K w' a' h2 hf')
  intro a d pos af g hf
  refine run_builtin (vs:=[vsub sz v p1 p2,u]) hf (by simp [evA,hx,hy]) ?_
  simp only [builtin]
  exact run_v h1
end
end Go.SL
namespace Go.SL
open Go
theorem Z.com {P:Program} {w:World} {n:Nat} {ds:List Deferred} {L:List (Nat × Value)} {ty t:TypeId} {x:Operand} {k:IntKind} {p c:Int} (hc:(if k.signed then -1 else k.max)=c) (hx:ev L x=some (.int k p)) :
    RunV P n ds L (.unOp .xor t x) ty w (.int k (Go.SL.bitxor k c p)) w:=fun a d pos af g hf=>by
  subst hc
  simp only [execOp,hf.eval hx]; rfl
theorem EqR.sl {P:Program} {t e:TypeId} {d:Nat} {A:Option Addr} {n c n' c':Nat} (ht:tElem P t=some e):EqR P (d+1) t (.slice A n c) (.slice none n' c') A.isNone:=fun w=>by
  cases A <;> simp [Op.equalIn,run_underlying (und_elem ht)]
theorem run_eqSl {P:Program} {w:World} {t e:TypeId} {v u:Value} {A A':Option Addr} {n c n' c':Nat} (ht:tElem P t=some e) (hv:v=.slice A n c) (hA:A'=none) (hu:u=.slice A' n' c'):(binOp .eql t v u).run P w=.ok (.bool A.isNone) w:=by
  subst hv hA hu
  have:=(EqR.sl (d:=9999) ht:EqR P 10000 t (.slice A n c) (.slice none n' c') A.isNone) w
  simp only [binOp,Op.equal,Op.maxDepth,Sem.run_bind,this,Result.andThen_ok,Sem.run_pure]
section
variable {P:Program} {w:World} {n:Nat} {ds:List Deferred} {L:List (Nat × Value)} {ty t t' e:TypeId} {x y:Operand} {v:Value} {k c:Nat} {a:Addr}
theorem Z.eqNil1 (ht:tElem P t=some e) (hv:v=.slice none k c) (hx:ev L x=some v) (hy:ev L y=some (.slice none 0 0)):RunV P n ds L (.binOp .eql t x y t') ty w (.bool true) w:=fun a d pos af g hf=>by
  simp only [execOp,hf.eval hx,hf.eval hy]
  have e1:(eqGuard .eql t x y v (.slice none 0 0)).run P w=.ok () w:=by subst hv; simp [eqGuard]
  have e2:=run_eqSl (P:=P) (w:=w) (u:=.slice none 0 0) ht hv rfl rfl
  simp only [Sem.run_bind,e1,e2,Result.andThen_ok,Sem.run_pure]; rfl
theorem Z.eqNil2 (ht:tElem P t=some e) (hv:v=.slice (some a) k c) (hx:ev L x=some v) (hy:ev L y=some (.slice none 0 0)):RunV P n ds L (.binOp .eql t x y t') ty w (.bool false) w:=fun a d pos af g hf=>by
  simp only [execOp,hf.eval hx,hf.eval hy]
  have e1:(eqGuard .eql t x y v (.slice none 0 0)).run P w=.ok () w:=by subst hv; simp [eqGuard]
  have e2:=run_eqSl (P:=P) (w:=w) (u:=.slice none 0 0) ht hv rfl rfl
  simp only [Sem.run_bind,e1,e2,Result.andThen_ok,Sem.run_pure]; rfl
end
theorem nil_or {T:Type} {enc:T→List Value} {sz:Nat} {l:List T} {h:Hp} {v:Value} (hr:rdEOK h sz enc v l):(∃ c,v=.slice none 0 c∧l=[])∨∃ a n c,v=.slice (some a) n c:=by
  obtain ⟨⟨h1,h2,A,c,rfl,h3⟩,hfit⟩:=hr
  cases A with
  | none =>
    left
    rcases Nat.eq_zero_or_pos l.length with h | h
    · exact ⟨c,by rw [h],List.length_eq_zero_iff.1 h⟩
    · obtain ⟨a,_,_,_,h4,_⟩:=h3 h; cases h4
  | some a=>exact .inr ⟨a,_,c,rfl⟩
end Go.SL
namespace Go.SL
open Go
section
variable {P:Program} {Q:Exit→Act→World→Prop} {ops:Array Oper} {a:Act} {w w0 w':World} {n:Nat} {ds:List Deferred} {L:List (Nat × Value)}
  {d:Nat} {op:Op} {ty:TypeId} {pos:String} {af:Array Edge} {v:Value} {X:Nat→Prop} {B M:List Asr} {f:FuncId} {args:Array Value}
theorem OQ.callRq {K:Act→Prop} {lo:List Oper} (hf:Fr a n ds L) (hd:Nat.blt d n=true) (hr:∀ w,St w0 w X B M→RunE P n ds L op ty w f args) (hc:∀ w,St w0 w X B M→Ret P f args w (fun _:Unit=>v) (fun _ w1=>St w w1 noX [] []))
    (k:∀ a',Fr a' n ds ((d,v)::L)→OQ P ops (fun w=>St w0 w X B M) K lo a'):OQ P ops (fun w=>St w0 w X B M) K (⟨some d,op,ty,pos,af,none⟩::lo) a :=
  OQ.call hf hd hr (fun w hw=>Calls.mono (hc w hw) fun _ w' ⟨_,he,hR⟩=>⟨he,(hw.call hR).dropN⟩) k
end
end Go.SL
