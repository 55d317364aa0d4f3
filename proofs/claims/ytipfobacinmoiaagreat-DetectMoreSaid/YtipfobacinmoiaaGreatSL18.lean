/- Parts of slices: x[a:b] read, or told as a slice of the call's own; slices that are arguments and written; windows; copy. -/
import Derived.Test.YtipfobacinmoiaaGreatSL17
import Derived.Laws.Slices
set_option linter.unusedVariables false
set_option linter.unusedSimpArgs false
namespace Go.SL
open Go
def vsub (sz:Nat) (v:Value) (a b:Int):Value :=
  match v with
  | .slice A _ c=>.slice (if c=a.toNat then A else A.map (·.add (a.toNat*sz))) (b.toNat-a.toNat) (c-a.toNat)
  | _=>undef
def lsub {T:Type} (l:List T) (a b:Int):List T:=(l.take b.toNat).drop a.toNat
def sbd (a b n:Int):Prop:=0≤a∧a≤b∧b≤n
instance (a b n:Int):Decidable (sbd a b n):=by unfold sbd; infer_instance
section
variable {T:Type} {enc:T→List Value} {sz:Nat} {l:List T} {h:Hp} {v:Value} {a b:Int} {x0:T}
theorem encs_take (he:∀ x,(enc x).length=sz):∀ (l:List T) (k:Nat),encs enc (l.take k)=(encs enc l).take (k*sz)
  | [],k=>by simp [encs]
  | x::t,0=>by simp [encs]
  | x::t,k+1=>by
    have ih:=encs_take he t k
    simp only [encs] at ih
    simp only [encs,List.take_succ_cons,List.flatMap_cons,ih]
    have h1:(k+1)*sz=sz+k*sz:=by rw [Nat.add_mul]; omega
    rw [List.take_append,he,h1,List.take_of_length_le (l:=enc x) (by rw [he]; omega),Nat.add_sub_cancel_left]
theorem encs_drop (he:∀ x,(enc x).length=sz):∀ (l:List T) (k:Nat),encs enc (l.drop k)=(encs enc l).drop (k*sz)
  | [],k=>by simp [encs]
  | x::t,0=>by simp
  | x::t,k+1=>by
    have ih:=encs_drop he t k
    simp only [encs] at ih
    simp only [encs,List.drop_succ_cons,List.flatMap_cons,ih]
    have h1:(k+1)*sz=sz+k*sz:=by rw [Nat.add_mul]; omega
    rw [List.drop_append,he,h1,List.drop_of_length_le (l:=enc x) (by rw [he]; omega),Nat.add_sub_cancel_left,List.nil_append]
theorem lsub_len (hb:sbd a b (l.length:Int)):(lsub l a b).length=b.toNat-a.toNat:=by
  unfold lsub; obtain ⟨h1,h2,h3⟩:=hb; simp; omega
theorem lsub_leni (hb:sbd a b (l.length:Int)):((lsub l a b).length:Int)=b-a:=by
  rw [lsub_len hb]; obtain ⟨h1,h2,h3⟩:=hb; omega
theorem rdEOK.sub (hr:rdEOK h sz enc v l) (he:∀ x,(enc x).length=sz) (hb:sbd a b (l.length:Int)):rdEOK h sz enc (vsub sz v a b) (lsub l a b):=by
  obtain ⟨⟨h1,h2,A,c,rfl,h3⟩,hfit⟩:=hr
  have hfit:l.length≤c:=hfit
  have hl:=lsub_len hb
  obtain ⟨b1,b2,b3⟩:=hb
  refine ⟨⟨by rw [encs_len he],by omega,?_⟩,?_⟩
  · refine ⟨_,_,by rw [hl]; rfl,fun hn=>?_⟩
    rw [hl] at hn
    obtain ⟨p,cur,e,z,rfl,hs,hg,hc⟩:=h3 (by omega)
    refine ⟨p.add (a.toNat*sz),cur,e,z,?_,?_,?_,?_⟩
    · rw [if_neg (by omega)]; rfl
    · obtain ⟨g,o,s⟩:=p
      simp only at hs; subst hs; simp [add_none]
    · obtain ⟨g,o,s⟩:=p
      simp only at hs; subst hs; simpa [add_none] using hg
    · intro j u hu
      obtain ⟨g,o,s⟩:=p
      simp only at hs; subst hs
      simp only [add_none]
      rw [Nat.add_assoc]
      apply hc
      unfold lsub at hu
      rw [encs_drop he,encs_take he,List.getElem?_drop,List.getElem?_take] at hu
      split at hu
      · exact hu
      · cases hu
  · show b.toNat-a.toNat≤c-a.toNat
    omega
theorem vsub_own (hr:rdEOK h sz enc v l) (hl:0<(lsub l a b).length) (hb:sbd a b (l.length:Int)):(vsub sz v a b).ownBlock=v.ownBlock:=by
  obtain ⟨⟨h1,h2,A,c,rfl,h3⟩,hfit⟩:=hr
  have hfit:l.length≤c:=hfit
  rw [lsub_len hb] at hl
  obtain ⟨b1,b2,b3⟩:=hb
  obtain ⟨p,cur,e,z,rfl,hs,hg,hc⟩:=h3 (by omega)
  obtain ⟨g,o,s⟩:=p
  simp only at hs; subst hs
  unfold vsub
  simp only
  rw [if_neg (by omega)]
  simp [Value.ownBlock,add_none]
theorem slOK.sub {e:TypeId} (hs:slOK h e sz v l.length (encs enc l)) (he:∀ x,(enc x).length=sz) (hb:sbd 0 b (l.length:Int)):slOK h e sz (vsub sz v 0 b) (lsub l 0 b).length (encs enc (lsub l 0 b)):=by
  have hl:=lsub_len hb
  obtain ⟨b1,b2,b3⟩:=hb
  refine ⟨by rw [encs_len he],?_⟩
  rw [hl]
  rcases hs.2 with ⟨rfl,h0⟩ | ⟨g,cap,cur,rfl,hg,h1,h2,h3,h4⟩
  · have:b.toNat=0:=by omega
    refine .inl ⟨?_,by simp; omega⟩
    simp [vsub,this]
  · refine .inr ⟨g,cap,cur,?_,hg,by simp; omega,h2,h3,?_⟩
    · simp [vsub,add_none]
    · unfold lsub
      simp only [Int.toNat_zero,List.drop_zero,Nat.sub_zero]
      rw [encs_take he,← h4,List.take_take]
      congr 1
      have:b.toNat*sz≤l.length*sz:=Nat.mul_le_mul_right _ (by omega)
      omega
end
section
variable {T:Type} {enc:T→List Value} {sz:Nat} {l:List T} {x0:T}
variable {P:Program} {w w0:World} {n:Nat} {ds:List Deferred} {L:List (Nat × Value)} {ty t e:TypeId} {x y lo hi:Operand} {v:Value} {X:Nat→Prop} {B M M':List Asr} {p q:Int} {k k':IntKind} {j:Nat}
theorem run_sub (he:tElem P t=some e) (hs:tSize P e=some sz) (hr:rdEOK (hp w) sz enc v l) (lo' hi':Option Value)
    (hb:sbd p q (l.length:Int)) (hlo:lo'=none∧p=0∨∃ k,lo'=some (.int k p)) (hhi:hi'=none∧q=l.length∨∃ k,hi'=some (.int k q)) :
    (Instr.sliceAt t v lo' hi' none).run P w=.ok (vsub sz v p q) w:=by
  obtain ⟨⟨h1,h2,A,c,rfl,h3⟩,hfit⟩:=hr
  have hfit:l.length≤c:=hfit
  obtain ⟨b1,b2,b3⟩:=hb
  have ht:=und_elem he
  have ht:P.underlying t=some (.slice (P.elem t)):=by rw [ht]; simp [Program.elem,ht]
  have hel:P.elem t=e:=by
    have:=und_elem he
    rw [this] at ht
    simpa using ht.symm
  rw [run_sliceAt_slice _ _ _ _ _ _ ht]
  have hsz:(sizeOf (P.elem t)).run P w=.ok sz w:=by rw [hel]; exact run_sizeOf hs
  rcases hlo with ⟨rfl,rfl⟩ | ⟨k,rfl⟩ <;> rcases hhi with ⟨rfl,rfl⟩ | ⟨k',rfl⟩
  · rw [run_slice_all _ _ _ _ _ ht,hsz]; simp [sliced,vsub,Result.andThen]
  · rw [run_slice_h _ _ _ _ _ ht _ _ b2 (by omega),hsz]; simp [sliced,vsub,Result.andThen]
  · rw [run_slice_l _ _ _ _ _ ht _ _ b1 (by omega),hsz]; simp [sliced,vsub,Result.andThen]
  · rw [run_slice_lh _ _ _ _ _ ht _ _ _ _ b1 b2 (by omega),hsz]; simp [sliced,vsub,Result.andThen]
end
end Go.SL
namespace Go.SL
open Go
section
variable {T:Type} {enc:T→List Value} {sz:Nat} {l m:List T} {h:Hp} {v u:Value} {a b p q:Int} {x0:T} {k:Nat}
theorem ix_vsub {c:Nat} (hr:rdEOK h sz enc v l) (hb:sbd a b (l.length:Int)) (hl:0<(lsub l a b).length):ix (vsub sz v a b) c=ix v (a.toNat*sz+c):=by
  obtain ⟨⟨h1,h2,A,cc,rfl,h3⟩,hfit⟩:=hr
  have hfit:l.length≤cc:=hfit
  rw [lsub_len hb] at hl
  obtain ⟨b1,b2,b3⟩:=hb
  obtain ⟨g,cur,e,z,rfl,hs,hg,hc⟩:=h3 (by omega)
  obtain ⟨g,o,s⟩:=g
  simp only at hs; subst hs
  unfold vsub ix
  simp only
  rw [if_neg (by omega)]
  simp [add_none,Nat.add_assoc]
end
section
variable {T:Type} {enc:T→List Value} {sz:Nat} {l m:List T} {x0:T}
variable {r:Option Nat} {P:Program} {Q:Exit→Act→World→Prop} {ops:Array Oper} {i:Nat} {rest:List Nat} {a:Act} {w w0 w':World} {n:Nat} {ds:List Deferred} {L:List (Nat × Value)}
  {d:Nat} {op:Op} {ty t e:TypeId} {pos:String} {af:Array Edge} {v u z:Value} {X:Nat→Prop} {B M M':List Asr} {x y:Operand} {b o j:Nat} {k:IntKind} {p p1 p2:Int} {q q':Asr}
theorem RunV.ixW (he:tElem P t=some e) (hs:tSize P e=some sz) (hx:ev L x=some (vsub sz v p1 p2)) (hy:ev L y=some (.int k p)) (hr:rdEOK (hp w) sz enc v l) (henc:∀ x,(enc x).length=sz) (hb:sbd p1 p2 (l.length:Int)) (hi:idx (lsub l p1 p2) p=some x0) :
    RunV P n ds L (.indexAddr t x y) ty w (ix v (Int.toNat (p1+p)*sz)) w:=by
  have h1:=RunV.ixE (P:=P) (n:=n) (ds:=ds) (ty:=ty) he hs hx hy (hr.sub henc hb) hi
  obtain ⟨h2,h3,_⟩:=idx_some hi
  rw [ix_vsub hr hb (by omega)] at h1
  have h4:p1.toNat*sz+p.toNat*sz=Int.toNat (p1+p)*sz:=by
    rw [← Nat.add_mul]; congr 1
    obtain ⟨b1,b2,b3⟩:=hb
    omega
  rwa [h4] at h1
theorem O.makeCapE {by_:Nat} {k1 k2:IntKind} {p c:Int} {x0:T} (hf:Fr a n ds L) (hS:St w0 w X B M) (ho:ops[i]? = some ⟨some d,.makeSlice t x y,ty,pos,af,none⟩) (hd:Nat.blt d n=true)
    (he:tElem P t=some e) (hs:tSize P e=some sz) (hby:tBytes P e=some by_) (hz:tZero P e=some z) (h0:Nat.blt 0 sz=true) (hx:ev L x=some (.int k1 p)) (hy:ev L y=some (.int k2 c)) (hp:0≤p∧p≤c∧c≤4294967296) (hb:Nat.ble by_ 32000=true) (henc:∀ x,(enc x).length=sz) (hz0:z.cells.toList=enc x0)
    (k:∀ v w' a',St w0 w' X B (slE e sz enc v (List.replicate p.toNat x0)::M)→Fr a' n ds ((d,v)::L)→O r P ops Q rest a' w'):O r P ops Q (i::rest) a w:=by
  have hb:=Nat.le_of_ble_eq_true hb
  have h9:by_*c.toNat≤140737488355328:=by
    refine Nat.le_trans (Nat.mul_le_mul hb (show c.toNat≤4294967296 by omega)) ?_
    decide
  unfold tSize at hs
  unfold tBytes at hby
  unfold tZero at hz
  obtain ⟨inf,hi,hsz⟩:=Option.map_eq_some_iff.1 hs
  rw [hi] at hby hz
  simp only [Option.map_some,Option.some.injEq,Option.bind_some] at hby hz
  subst hsz
  subst hby
  have hbb:(inf.bytes:Int)*c≤281474976710656:=by
    have h:((inf.bytes*c.toNat:Nat):Int)≤281474976710656:=by omega
    rw [Int.natCast_mul] at h
    have:((c.toNat:Nat):Int)=c:=by omega
    rwa [this] at h
  have hr:=run_make (P:=P) w t e inf z (und_elem he) hi hz k1 k2 p c (by omega) (by omega) hbb (by omega)
  refine O.val (w':=w.alloc (.cells (madeCells z.cells (c.toNat*inf.size)) e)) (v:=.slice (some ⟨w.heap.size,0,none⟩) p.toNat c.toNat) hf ho rfl hd ?_ (fun a' hf'=>k _ _ a' ?_ hf')
  · intro a d pos af g hf
    simp only [execOp,hf.eval hx,hf.eval hy]
    exact run_v hr
  · refine hS.push rfl rfl rfl (by simp) (fun b hb=>heap_alloc_old w _ b hb) ?_ (fun b hb=>?_)
    · have hlen:(madeCells z.cells (c.toNat*inf.size)).size=c.toNat*inf.size:=by simp [madeCells]
      refine ⟨by rw [encs_len henc],.inr ⟨w.heap.size,c.toNat,_,by rw [List.length_replicate],heap_alloc_new w _,by rw [List.length_replicate]; omega,by unfold maxLen; omega,hlen,?_⟩⟩
      have e1:List.replicate p.toNat x0=(List.replicate c.toNat x0).take p.toNat:=by
        rw [List.take_replicate]; congr 1; omega
      rw [made_encs (by simpa using h0) henc hz0,List.length_replicate,e1,encs_take henc]
    · have hb:some w.heap.size=some b:=hb
      injection hb with hb
      subst hb
      exact ⟨Nat.le_refl _,by simp⟩
end
end Go.SL
namespace Go.SL
open Go
def lcopy {T:Type} (l m:List T) (a:Int) (k:Nat):List T:=l.take a.toNat++m.take k++l.drop (a.toNat+k)
section
variable {T:Type} {enc:T→List Value} {sz:Nat} {l m:List T} {h:Hp} {v u:Value} {p1 p2:Int} {e:TypeId}
end
section
variable {T:Type} {enc:T→List Value} {sz:Nat} {l m l':List T}
variable {r:Option Nat} {P:Program} {Q:Exit→Act→World→Prop} {ops:Array Oper} {i:Nat} {rest:List Nat} {a:Act} {w w0:World} {n:Nat} {ds:List Deferred} {L:List (Nat × Value)}
  {d:Nat} {ty t e:TypeId} {pos:String} {af:Array Edge} {v u:Value} {X:Nat→Prop} {B M M':List Asr} {x y:Operand} {j k:Nat} {p1 p2:Int}
end
end Go.SL
namespace Go.SL
open Go
theorem RunV.com {P:Program} {w:World} {n:Nat} {ds:List Deferred} {L:List (Nat × Value)} {ty t:TypeId} {x:Operand} {k:IntKind} {p c:Int} (hc:(if k.signed then -1 else k.max)=c) (hx:ev L x=some (.int k p)) :
    RunV P n ds L (.unOp .xor t x) ty w (.int k (Go.SL.bitxor k c p)) w:=fun a d pos af g hf=>by
  subst hc
  simp only [execOp,hf.eval hx]; rfl
theorem EqR.sl {P:Program} {t e:TypeId} {d:Nat} {A:Option Addr} {n c n' c':Nat} (ht:tElem P t=some e):EqR P (d+1) t (.slice A n c) (.slice none n' c') A.isNone:=fun w=>by
  cases A <;> simp [Op.equalIn,run_underlying (und_elem ht)]
theorem run_eqSl {P:Program} {w:World} {t e:TypeId} {v u:Value} {A A':Option Addr} {n c n' c':Nat} (ht:tElem P t=some e) (hv:v=.slice A n c) (hA:A'=none) (hu:u=.slice A' n' c'):(binOp .eql t v u).run P w=.ok (.bool A.isNone) w:=by
  subst hv hA hu
  have:=(EqR.sl (d:=9999) ht:EqR P 10000 t (.slice A n c) (.slice none n' c') A.isNone) w
  simp only [binOp,Op.equal,Op.maxDepth,Sem.run_bind,this,Result.andThen_ok,Sem.run_pure]
section
variable {P:Program} {w:World} {n:Nat} {ds:List Deferred} {L:List (Nat × Value)} {ty t t' e:TypeId} {x y:Operand} {v:Value} {k c:Nat} {a:Addr}
end
end Go.SL
namespace Go.SL
open Go
section
variable {P:Program} {Q:Exit→Act→World→Prop} {ops:Array Oper} {a:Act} {w w0 w':World} {n:Nat} {ds:List Deferred} {L:List (Nat × Value)}
  {d:Nat} {op:Op} {ty:TypeId} {pos:String} {af:Array Edge} {v:Value} {X:Nat→Prop} {B M:List Asr} {f:FuncId} {args:Array Value}
theorem OQ.callRq {K:Act→Prop} {lo:List Oper} (hf:Fr a n ds L) (hd:Nat.blt d n=true) (hr:∀ w,St w0 w X B M→RunE P n ds L op ty w f args) (hc:∀ w,St w0 w X B M→Ret P f args w (fun _:Unit=>v) (fun _ w1=>St w w1 noX [] []))
    (k:∀ a',Fr a' n ds ((d,v)::L)→OQ P ops (fun w=>St w0 w X B M) K lo a'):OQ P ops (fun w=>St w0 w X B M) K (⟨some d,op,ty,pos,af,none⟩::lo) a :=
  OQ.call hf hd hr (fun w hw=>Calls.mono (hc w hw) fun _ w' ⟨_,he,hR⟩=>⟨he,(hw.call hR).dropN⟩) k
end
end Go.SL
