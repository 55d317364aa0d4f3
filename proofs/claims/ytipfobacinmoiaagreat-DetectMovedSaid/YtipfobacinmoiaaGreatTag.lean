/- Part of a proof: laws and walks. -/
import Derived.Test.YtipfobacinmoiaaGreatTaf
import Derived.Test.YtipfobacinmoiaaGreatTac
import Derived.Test.YtipfobacinmoiaaGreatTab
import Derived.Test.YtipfobacinmoiaaGreatTad
set_option linter.unusedVariables false
set_option linter.unusedSimpArgs false
namespace Go.SL
open Go
structure KeyOK (P:Program) (kt:TypeId) {K:Type} [DecidableEq K] (kE:K→Value) (G:World→K→Prop):Prop where
  chk:∀ (k:K) (b:Bool) (w:World),(Instr.checkKey b 10000 kt (kE k)).run P w=.ok () w
  und:∃ d,P.underlying kt=some d∧∀ k k':K,Instr.sameNow d (kE k) (kE k')=none
  eqk:∀ (k k':K) (w:World),G w k→G w k'→(Op.equal kt (kE k) (kE k')).run P w=.ok (decide (k=k')) w
  bits:∀ k:K,Instr.sameBits 10000 (kE k) (kE k)=true
section
variable {K:Type} [DecidableEq K]
def mO (k:K):List (K × Value)→Option Value
  | []=>none
  | p::t=>if k=p.1 then some p.2 else mO k t
def oF (k:K):List (K × Value)→Nat→Option (Nat × Value)
  | [],_=>none
  | p::t,i=>if k=p.1 then some (i,p.2) else oF k t (i+1)
def jU (k:K) (v:Value):List (K × Value)→List (K × Value)
  | []=>[(k,v)]
  | p::t=>if k=p.1 then (k,v)::t else p::jU k v t
theorem vM (k:K):∀ (l:List (K × Value)) (i:Nat),(oF k l i).map (·.2)=mO k l
  | [],_=>rfl
  | p::t,i=>by
    simp only [oF,mO]
    split
    · rfl
    · exact vM k t (i+1)
theorem ql (k k':K) (v:Value):∀ l:List (K × Value),mO k' (jU k v l)=if k'=k then some v else mO k' l
  | []=>by simp only [jU,mO]
  | p::t=>by
    simp only [jU]
    split
    · rename_i h
      simp only [mO]
      split
      · rfl
      · rename_i h2; rw [if_neg (fun e=>h2 (e.trans h.symm))]
    · rename_i h
      simp only [mO]
      rw [ql k k' v t]
      by_cases h1:k'=p.1
      · rw [if_pos h1,if_neg (fun e=>h (e.symm.trans h1)),if_pos h1]
      · rw [if_neg h1,if_neg h1]
theorem aAT (k:K) (v:Value):∀ l:List (K × Value),(jU k v l).map (·.1)=if k ∈ l.map (·.1) then l.map (·.1) else l.map (·.1)++[k]
  | []=>by simp [jU]
  | p::t=>by
    simp only [jU]
    split
    · rename_i h; subst h; simp
    · rename_i h
      simp only [List.map_cons,aAT k v t,List.mem_cons,h,false_or]
      split <;> rfl
def aAK (kE:K→Value) (h:Hp) (b:Nat) (kvs:List (K × Value)):Prop :=
  ∃ es clock,h b=some (.map es clock)∧es.toList.map (fun e=>(e.key,e.val))=kvs.map (fun p=>(kE p.1,p.2))∧(∀ e ∈ es.toList,e.born<clock)∧(es.toList.map (·.born)).Nodup
def mp (kE:K→Value) (b:Nat) (kvs:List (K × Value)):Asr:=⟨fun k=>k=b,fun h=>aAK kE h b kvs,fun h h' hk ⟨es,c,h1,h2⟩=>⟨es,c,by rw [hk b rfl]; exact h1,h2⟩⟩
variable {P:Program} {w w0:World} {t kt:TypeId} {kE:K→Value} {kvs:List (K × Value)} {b:Nat} {k:K} {z:Value} {G:World→K→Prop}
def wF (P:Program) (t:TypeId):Option (TypeId × Value) :=
  match P.underlying t with
  | some (.map k e)=>match dx P e with
    | some z=>some (k,z)
    | none=>none
  | _=>none
theorem vS (h:wF P t=some (kt,z)):∃ e,P.underlying t=some (.map kt e)∧dx P e=some z:=by
  unfold wF at h
  split at h
  · rename_i k e hu
    split at h
    · rename_i z' hz
      simp only [Option.some.injEq,Prod.mk.injEq] at h
      obtain ⟨rfl,rfl⟩:=h
      exact ⟨e,hu,hz⟩
    · cases h
  · cases h
theorem qi {k:K} {v:Value}:∀ {l:List (K × Value)} {i:Nat},oF k l i=none→k ∉ l.map (·.1)∧jU k v l=l++[(k,v)]
  | [],_,_=>by simp [jU]
  | p::t,i,h=>by
    simp only [oF] at h
    split at h
    · cases h
    · rename_i hk
      obtain ⟨h1,h2⟩:=qi (v:=v) h
      exact ⟨by simp only [List.map_cons,List.mem_cons,not_or]; exact ⟨hk,h1⟩,by simp only [jU,if_neg hk,h2,List.cons_append]⟩
theorem rU {k:K} {v:Value} {j:Nat × Value}:∀ {l:List (K × Value)} {i:Nat},oF k l i=some j→∃ m,j.1=i+m∧m<l.length∧(l[m]?).map (·.1)=some k∧jU k v l=l.set m (k,v)
  | [],_,h=>by cases h
  | p::t,i,h=>by
    simp only [oF] at h
    split at h
    · rename_i hk
      simp only [Option.some.injEq] at h
      subst h hk
      exact ⟨0,rfl,by simp,by simp,by simp [jU]⟩
    · rename_i hk
      obtain ⟨m,h1,h2,h3,h4⟩:=rU (v:=v) h
      exact ⟨m+1,by omega,by simp; omega,by simpa using h3,by simp only [jU,if_neg hk,h4,List.set_cons_succ]⟩
end
section
variable {K:Type} {kE:K→Value} {kvs:List (K × Value)}
variable {r:Option Nat} {P:Program} {ops:Array Oper} {Q:Exit→Act→World→Prop} {a:Act} {w w0:World} {n:Nat} {ds:List Deferred} {L:List (Nat × Value)} {X:Nat→Prop} {B M M':List Asr}
  {d i j b:Nat} {ty t kt:TypeId} {pos:String} {af:Array Edge} {rest:List Nat}
theorem St.aA7 (h:St w0 w X B M) (hi:M[j]? = some (mp kE b kvs)):aAK kE (hp w) b kvs:=h.at_ hi
theorem O.aEo (kE:K→Value) (hf:Fr a n ds L) (hS:St w0 w X B M) (ho:ops[i]? = some ⟨some d,.makeMap t none,ty,pos,af,none⟩) (hd:Nat.blt d n=true)
    (k:∀ b w' a',w0.heap.size≤b→St w0 w' X B (mp kE b []::M)→Fr a' n ds ((d,.map (some b))::L)→O r P ops Q rest a' w'):O r P ops Q (i::rest) a w:=by
  refine O.val (w':=w.alloc (.map #[] 0)) hf ho rfl hd (v:=.map (some w.heap.size)) ?_ (fun a' hf'=>k _ _ a' hS.size ?_ hf')
  · intro a d pos af g hf
    simp only [execOp]
    exact fD rfl
  · exact (hS.alloc (.map #[] 0)).conv (i:=0) (p:=pt w.heap.size (.map #[] 0)) (q:=mp kE w.heap.size []) rfl (fun h=>⟨#[],0,h,rfl,by simp,by simp⟩) (fun b hb=>hb)
end
section
variable {K:Type} [DecidableEq K] {kE:K→Value} {kvs:List (K × Value)} {k:K} {G:World→K→Prop}
variable {r:Option Nat} {P:Program} {ops:Array Oper} {Q:Exit→Act→World→Prop} {a:Act} {w w0:World} {n:Nat} {ds:List Deferred} {L:List (Nat × Value)} {X:Nat→Prop} {B M M':List Asr}
  {d i j b:Nat} {ty t kt:TypeId} {pos:String} {af:Array Edge} {rest:List Nat} {x y zz:Operand} {v z u:Value}
end
def dH (l:List Asr):Asr :=
  ⟨fun b=>∃ p ∈ l,p.fp b,fun h=>(∀ p ∈ l,p.holds h)∧l.Pairwise (fun p q:Asr=>∀ b:Nat,p.fp b→¬ q.fp b),
   fun h h' hk ⟨h1,h2⟩=>⟨fun p hp=>p.loc h h' (fun b hb=>hk b ⟨p,hp,hb⟩) (h1 p hp),h2⟩⟩
section
variable {h:Hp} {m:Nat} {old:Nat→Prop} {l l' N M:List Asr} {p q:Asr} {w0 w:World} {X:Nat→Prop} {B:List Asr}
theorem Sep.big:∀ {l:List Asr},Sep h m old (dH l::M)↔Sep h m old (l++M)
  | []=>by
    constructor
    · exact fun hs=>hs.2
    · exact fun hs=>⟨⟨⟨by simp,.nil⟩,fun b ⟨p,hp,_⟩=>by simp at hp,fun q _ b ⟨p,hp,_⟩=>by simp at hp⟩,hs⟩
  | p::l=>by
    have ih:=Sep.big (l:=l)
    constructor
    · rintro ⟨⟨⟨h1,h2⟩,h3,h4⟩,h5⟩
      rw [List.pairwise_cons] at h2
      refine ⟨⟨h1 p List.mem_cons_self,fun b hb=>h3 b ⟨p,List.mem_cons_self,hb⟩,fun q hq b hb=>?_⟩,ih.1 ⟨⟨⟨fun q hq=>h1 q (List.mem_cons_of_mem _ hq),h2.2⟩,fun b ⟨q,hq,hb⟩=>h3 b ⟨q,List.mem_cons_of_mem _ hq,hb⟩,fun q hq b ⟨r,hr,hb⟩=>h4 q hq b ⟨r,List.mem_cons_of_mem _ hr,hb⟩⟩,h5⟩⟩
      rcases List.mem_append.1 hq with hq | hq
      · exact h2.1 q hq b hb
      · exact h4 q hq b ⟨p,List.mem_cons_self,hb⟩
    · rintro ⟨⟨h1,h2,h3⟩,h4⟩
      obtain ⟨⟨⟨g1,g2⟩,g3,g4⟩,g5⟩:=ih.2 h4
      refine ⟨⟨⟨fun q hq=>?_,List.pairwise_cons.2 ⟨fun q hq b hb=>h3 q (List.mem_append_left _ hq) b hb,g2⟩⟩,?_,?_⟩,g5⟩
      · rcases List.mem_cons.1 hq with rfl | hq
        · exact h1
        · exact g1 q hq
      · rintro b ⟨q,hq,hb⟩
        rcases List.mem_cons.1 hq with rfl | hq
        · exact h2 b hb
        · exact g3 b ⟨q,hq,hb⟩
      · rintro q hq b ⟨s,hs,hb⟩
        rcases List.mem_cons.1 hs with rfl | hs
        · exact h3 q (List.mem_append_right _ hq) b hb
        · exact g4 q hq b ⟨s,hs,hb⟩
theorem Sep.tail {M':List Asr} (he:∀ q ∈ M',∀ b,q.fp b→∃ q' ∈ M,q'.fp b) (hm:Sep h m old M→Sep h m old M'):∀ {N:List Asr},Sep h m old (N++M)→Sep h m old (N++M')
  | [],hs=>hm hs
  | p::N,hs=>⟨⟨hs.1.1,hs.1.2.1,fun q hq b hb hqb=>by
      rcases List.mem_append.1 hq with h1 | h1
      · exact hs.1.2.2 q (List.mem_append_left _ h1) b hb hqb
      · obtain ⟨q',h2,h3⟩:=he q h1 b hqb
        exact hs.1.2.2 q' (List.mem_append_right _ h2) b hb h3⟩,Sep.tail he hm hs.2⟩
theorem St.tail {M':List Asr} (hS:St w0 w X B (N++M)) (he:∀ q ∈ M',∀ b,q.fp b→∃ q' ∈ M,q'.fp b) (hm:Sep (hp w) w.heap.size (fun b=>X b∨w0.heap.size≤b) M→Sep (hp w) w.heap.size (fun b=>X b∨w0.heap.size≤b) M'):St w0 w X B (N++M') :=
  ⟨hS.os,hS.tape,hS.output,hS.size,hS.old,Sep.tail he hm hS.sep,hS.bor⟩
theorem St.mM (hS:St w0 w X B (N++dH l::M)):St w0 w X B (N++(l++M)) :=
  hS.tail (fun q hq b hb=>by
    rcases List.mem_append.1 hq with h1 | h1
    · exact ⟨_,List.mem_cons_self,q,h1,hb⟩
    · exact ⟨q,List.mem_cons_of_mem _ h1,hb⟩) Sep.big.1
theorem St.kG (hS:St w0 w X B (N++(l++M))):St w0 w X B (N++dH l::M) :=
  hS.tail (fun q hq b hb=>by
    rcases List.mem_cons.1 hq with rfl | h1
    · obtain ⟨p,hp,hb⟩:=hb
      exact ⟨p,List.mem_append_left _ hp,hb⟩
    · exact ⟨q,List.mem_append_right _ h1,hb⟩) Sep.big.2
theorem St.aCs (hS:St w0 w X B (N++dH (p::l)::M)):St w0 w X B (N++p::dH l::M):=by
  have h1:=hS.mM
  have h2:St w0 w X B ((N++[p])++(l++M)):=by simpa using h1
  have h3:=h2.kG
  simpa using h3
theorem St.nA (hS:St w0 w X B (N++p::dH l::M)):St w0 w X B (N++dH (p::l)::M):=by
  have h2:St w0 w X B ((N++[p])++dH l::M):=by simpa using hS
  have h3:=h2.mM
  have h4:St w0 w X B (N++((p::l)++M)):=by simpa using h3
  exact h4.kG
theorem bigA_perm_holds (hl:l.Perm l') (hh:(dH l).holds h):(dH l').holds h :=
  ⟨fun p hp=>hh.1 p (hl.mem_iff.2 hp),(hl.pairwise_iff (fun {a b} hab c hb ha=>hab c ha hb)).1 hh.2⟩
theorem St.uI {i:Nat} (hS:St w0 w X B M) (hi:M[i]? = some (dH l)) (hl:l.Perm l'):St w0 w X B (M.set i (dH l')) :=
  hS.conv hi (bigA_perm_holds hl) (fun _ ⟨p,hp,hb⟩=>⟨p,hl.mem_iff.2 hp,hb⟩)
end
def aDz (t:TypeId) (c:Int):Value:=.iface t (.agg #[.int .i64 c])
def RetP {G:Type} (P:Program) (t:TypeId) (f:FuncId) (args:Array Value) (w:World) (v:G→Value) (R:G→World→Prop) (Rp:Int→World→Prop):Prop :=
  Calls P f args w fun e w'=>(∃ g,e=.returned (v g)∧R g w')∨∃ c,e=.panicked [⟨aDz t c,false,false⟩]∧Rp c w'
section
variable {r:Option Nat} {P:Program} {Q:Exit→Act→World→Prop} {ops:Array Oper} {i:Nat} {rest:List Nat} {a:Act} {w w0 w':World} {n:Nat} {ds:List Deferred} {L:List (Nat × Value)}
  {d:Nat} {op:Op} {ty t:TypeId} {pos:String} {af:Array Edge} {X:Nat→Prop} {B M:List Asr} {G:Type} {v:G→Value} {R:G→World→Prop} {Rp:Int→World→Prop} {f:FuncId} {args:Array Value} {x:Operand}
theorem O.panic {u:Value} (hf:Fr a n ds L) (ho:ops[i]? = some ⟨none,.panic x,ty,pos,af,none⟩) (hx:ev L x=some (.iface t u)) (k:Q (.panic [⟨.iface t u,false,false⟩]) a w):O r P ops Q (i::rest) a w:=by
  unfold O wpOpsIn
  simp only [ho]
  rw [if_pos (by simp [Region.wanted])]
  refine ⟨fun _ _=>trivial,?_⟩
  rw [fE (o:=⟨none,.panic x,ty,pos,af,none⟩) rfl]
  have he:(execOp a.eval ⟨none,.panic x,ty,pos,af,none⟩).run P w=.halt (.panic (.iface t u)) w:=by
    simp only [execOp,hf.eval hx,Instr.panic,goPanic,Sem.run_bind]
    rfl
  rw [he]
  exact k
end
end Go.SL

namespace Go.SL
open Go
def pG (P:Program) (t:TypeId):Option (TypeId × Value) :=
  match wF P t with
  | some (kt,z)=>match P.underlying kt with
    | some (.int _)=>some (kt,z)
    | _=>none
  | none=>none
section
variable {P:Program} {w w0:World} {t kt:TypeId} {kvs:List (Int × Value)} {b:Nat} {k:Int} {z:Value}
theorem qH (h:pG P t=some (kt,z)):∃ e q,P.underlying t=some (.map kt e)∧P.underlying kt=some (.int q)∧dx P e=some z:=by
  unfold pG at h
  split at h
  · rename_i a c hu
    split at h
    · rename_i q hq
      simp only [Option.some.injEq,Prod.mk.injEq] at h
      obtain ⟨rfl,rfl⟩:=h
      obtain ⟨e,h1,h3⟩:=vS hu
      exact ⟨e,q,h1,hq,h3⟩
    · cases h
  · cases h
theorem aBP:Instr.sameBits 10000 (.int .i64 k) (.int .i64 k)=true:=by simp [Instr.sameBits]
theorem rD {q:IntKind}:∀ (es:List MapEntry) (kvs:List (Int × Value)) (i:Nat),es.map (fun e=>(e.key,e.val))=kvs.map (fun p=>(Value.int .i64 p.1,p.2)) →
    Instr.findNow (.int q) (.int .i64 k) es i=some (oF k kvs i)
  | [],[],i,_=>rfl
  | [],_::_,i,h=>by simp at h
  | _::_,[],i,h=>by simp at h
  | e::es,x::kvs,i,h=>by
    simp only [List.map_cons,List.cons.injEq,Prod.mk.injEq] at h
    simp only [Instr.findNow,h.1.1,Instr.sameNow,if_true,oF]
    by_cases hx:k=x.1
    · subst hx
      simp [h.1.2]
    · have:(k == x.1)=false:=by simpa using hx
      rw [this]
      simp only [hx,if_false]
      exact rD es kvs (i+1) h.2
theorem mZ {q:IntKind} (hk:P.underlying kt=some (.int q)) {es:List MapEntry} (h:es.map (fun e=>(e.key,e.val))=kvs.map (fun p=>(Value.int .i64 p.1,p.2))):(Instr.findKey kt (.int .i64 k) es).run P w=.ok (oF k kvs 0) w:=by
  unfold Instr.findKey
  simp only [Sem.run_bind,run_underlying hk,Result.andThen,rD es kvs 0 h]
  rfl
def yG (ok:Bool) (o:Option Value) (z:Value):Value:=if ok then .tuple #[o.getD z,.bool o.isSome] else o.getD z
theorem zL (ht:pG P t=some (kt,z)) (ok:Bool) (h:aAK (Value.int .i64) (hp w) b kvs):(Instr.lookup t (.map (some b)) (.int .i64 k) ok).run P w=.ok (yG ok (mO k kvs) z) w:=by
  obtain ⟨e,q,h1,h2,h3⟩:=qH ht
  obtain ⟨es,c,hb,hm,_⟩:=h
  have hb':w.heap[b]? = some (.map es c):=hb
  unfold Instr.lookup
  simp only [Sem.run_bind,run_underlying h1,Result.andThen,MapKept.run_getObj_map hb',Sem.run_pure,run_checkKey h2,mZ h2 hm]
  rw [← vM k kvs 0]
  cases oF k kvs 0 with
  | none =>
    simp only [Option.map_none,Sem.run_bind,kK h3,Result.andThen,Sem.run_pure]
    rfl
  | some j =>
    simp only [Option.map_some,Sem.run_bind,Sem.run_pure,Result.andThen]
    rfl
theorem aBZ (ht:pG P t=some (kt,z)) (h:aAK (Value.int .i64) (hp w) b kvs) (v:Value) :
    ∃ es c,(Instr.mapUpdate t (.map (some b)) (.int .i64 k) v).run P w=.ok () (dU w b es c)∧aAK (Value.int .i64) (hp (dU w b es c)) b (jU k v kvs):=by
  obtain ⟨e,q,h1,h2,h3⟩:=qH ht
  obtain ⟨es,c,hb,hm,hbo,hnd⟩:=h
  have hb':w.heap[b]? = some (.map es c):=hb
  have hat:∀ es' c',hp (dU w b es' c') b=some (.map es' c'):=fun es' c'=>Array.getElem?_setIfInBounds_self_of_lt (Array.getElem?_eq_some_iff.1 hb').1
  cases hp:oF k kvs 0 with
  | none =>
    obtain ⟨_,hs⟩:=qi (v:=v) hp
    refine ⟨es.push { key:=.int .i64 k,val:=v,born:=c },c+1,?_,_,_,hat _ _,?_,?_,?_⟩
    · unfold Instr.mapUpdate
      simp only [Sem.run_bind,run_underlying h1,Result.andThen,MapKept.run_getObj_map hb',run_checkKey h2,mZ h2 hm,hp,MapKept.run_setObj_map _ hb']
      rfl
    · rw [hs]; simp [hm]
    · intro x hx
      simp only [Array.toList_push,List.mem_append,List.mem_singleton] at hx
      rcases hx with hx | rfl
      · have:=hbo x hx; omega
      · exact Nat.lt_succ_self _
    · simp only [Array.toList_push,List.map_append,List.map_cons,List.map_nil]
      rw [List.nodup_append]
      refine ⟨hnd,by simp,fun x hx y hy=>?_⟩
      simp only [List.mem_singleton] at hy
      subst hy
      obtain ⟨e,he,rfl⟩:=List.mem_map.1 hx
      have:=hbo e he; omega
  | some j =>
    obtain ⟨m,hj,hml,hmk,hs⟩:=rU (v:=v) hp
    rw [Nat.zero_add] at hj
    have hlen:es.size=kvs.length:=by have:=congrArg List.length hm; simpa using this
    have hme:m<es.size:=by omega
    have hkey:es[m].key=.int .i64 k:=by
      have:=congrArg (fun l=>(l[m]?).map (·.1)) hm
      simp only [List.getElem?_map,Option.map_map] at this
      have e1:es.toList[m]? = some es[m]:=by simp [hme]
      rw [e1] at this
      simp only [Option.map_some] at this
      cases hkv:kvs[m]? with
      | none=>rw [hkv] at hmk; cases hmk
      | some q =>
        rw [hkv] at hmk this
        simp only [Option.map_some,Option.some.injEq,Function.comp_apply] at hmk this
        rw [this,hmk]
    obtain ⟨j1,j2⟩:=j
    simp only at hj
    subst hj
    refine ⟨es.modify j1 fun e=>{ e with key:=.int .i64 k,val:=v },c,?_,_,_,hat _ _,?_,?_,?_⟩
    · unfold Instr.mapUpdate
      simp only [Sem.run_bind,run_underlying h1,Result.andThen,MapKept.run_getObj_map hb',run_checkKey h2,mZ h2 hm,hp,Instr.keyThatStays]
      have he:es[j1]? = some es[j1]:=by simp [hme]
      simp only [he,Option.map_some,Option.getD_some,hkey,aBP,if_true,Sem.run_pure,Result.andThen,MapKept.run_setObj_map _ hb']
      rfl
    · rw [hs]
      apply List.ext_getElem?
      intro i
      have h0:=congrArg (fun l=>l[i]?) hm
      simp only [List.getElem?_map] at h0
      simp only [Array.toList_modify,List.getElem?_map,List.getElem?_modify,List.getElem?_set]
      by_cases hi:j1=i
      · subst hi
        simp [hme,hml]
      · simp only [hi,if_false]
        simpa using h0
    · intro x hx
      obtain ⟨i,hi,rfl⟩:=List.mem_iff_getElem.1 hx
      have hi':i<es.size:=by simpa using hi
      have h2:=hbo es[i] (by simp)
      simp only [Array.toList_modify,List.getElem_modify,Array.getElem_toList]
      split <;> exact h2
    · have:((es.modify j1 fun e=>{ e with key:=.int .i64 k,val:=v }).toList.map (·.born))=es.toList.map (·.born):=by
        apply List.ext_getElem?
        intro i
        simp only [Array.toList_modify,List.getElem?_map,List.getElem?_modify]
        cases es.toList[i]? with
        | none=>simp
        | some x=>by_cases hi:j1=i <;> simp [hi]
      rw [this]; exact hnd
end
section
variable {kvs:List (Int × Value)} {k:Int}
variable {r:Option Nat} {P:Program} {ops:Array Oper} {Q:Exit→Act→World→Prop} {a:Act} {w w0:World} {n:Nat} {ds:List Deferred} {L:List (Nat × Value)} {X:Nat→Prop} {B M M':List Asr}
  {d i j b:Nat} {ty t kt:TypeId} {pos:String} {af:Array Edge} {rest:List Nat} {x y zz:Operand} {v z u:Value} {ok:Bool}
theorem aA.yX (ht:pG P t=some (kt,z)) (hx:ev L x=some (.map (some b))) (hy:ev L y=some (.int .i64 k)) (h:aAK (Value.int .i64) (hp w) b kvs) (hu:yG ok (mO k kvs) z=u):aA P n ds L (.lookup t x y ok) ty w u w:=fun a d pos af g hf=>by
  simp only [execOp,hf.eval hx,hf.eval hy]
  subst hu
  exact fD (zL ht ok h)
theorem O.aET (hf:Fr a n ds L) (hS:St w0 w X B M) (ho:ops[i]? = some ⟨none,.mapUpdate t x y zz,ty,pos,af,none⟩) (ht:pG P t=some (kt,z)) (hx:ev L x=some (.map (some b))) (hy:ev L y=some (.int .i64 k)) (hz:ev L zz=some v)
    (hM:M[j]? = some (mp (Value.int .i64) b kvs)) (hM':M.set j (mp (Value.int .i64) b (jU k v kvs))=M') (kk:∀ w',St w0 w' X B M'→O r P ops Q rest a w'):O r P ops Q (i::rest) a w:=by
  obtain ⟨es,c,h1,h2⟩:=aBZ (P:=P) ht (hS.aA7 hM) v
  have hl:=(hS.sep.get hM).2 b rfl
  refine O.unit (w':=dU w b es c) hf ho rfl ?_ (kk _ (hM'▸?_))
  · intro a d pos af g hf
    simp only [execOp,hf.eval hx,hf.eval hy,hf.eval hz]
    exact y7 h1
  · refine hS.write (w':=SL.dU w b es c) hM rfl rfl rfl (by simp [SL.dU]) (fun k _ hk=>?_) h2 (fun k hk=>⟨.inl hk,by
      have hk:k=b:=hk
      subst hk
      simpa [SL.dU] using hl.1⟩)
    simp only [SL.dU]
    exact Array.getElem?_setIfInBounds_ne (fun e=>hk e.symm)
end
def jV (o:List Int) (kvs:List (Int × Value)):Prop:=∀ i:Int,0≤i→mO i kvs=if 0≤o.getD i.toNat (-1) then some (.int .i64 (o.getD i.toNat (-1))) else none
theorem jV.nil (n:Nat):jV (List.replicate n (-1)) []:=fun i h=>by
  rw [if_neg]
  · rfl
  · rw [List.getD_eq_getElem?_getD,List.getElem?_replicate]
    split <;> simp
theorem jV.set {o:List Int} {kvs:List (Int × Value)} {k v:Int} (h:jV o kvs) (hk:0≤k) (hl:k.toNat<o.length) (hv:0≤v):jV (o.set k.toNat v) (jU k (.int .i64 v) kvs):=fun i hi=>by
  rw [ql]
  simp only [List.getD_eq_getElem?_getD,List.getElem?_set]
  by_cases e:i=k
  · subst e
    rw [if_pos rfl,if_pos rfl,if_pos hl]
    simp [hv]
  · rw [if_neg e,if_neg (show ¬ k.toNat=i.toNat by omega)]
    have:=h i hi
    rw [List.getD_eq_getElem?_getD] at this
    exact this
theorem jV.has {o:List Int} {kvs:List (Int × Value)} {k:Int} {z:Value} (h:jV o kvs) (hk:0≤k):yG true (mO k kvs) z=.tuple #[(mO k kvs).getD z,.bool (decide (0≤o.getD k.toNat (-1)))]:=by
  rw [h k hk]
  by_cases e:0≤o.getD k.toNat (-1)
  · rw [if_pos e,decide_eq_true e]; rfl
  · rw [if_neg e,decide_eq_false e]; rfl
theorem jV.get {o:List Int} {kvs:List (Int × Value)} {k:Int} {z:Value} (h:jV o kvs) (hk:0≤k) (hv:0≤o.getD k.toNat (-1)):yG false (mO k kvs) z=.int .i64 (o.getD k.toNat (-1)):=by
  rw [h k hk,if_pos hv]; rfl
end Go.SL

namespace Det
def brt (P:List Int) (a b:Int):Prop:=P.getD b.toNat 0<P.getD a.toNat 0∨(P.getD a.toNat 0=P.getD b.toNat 0∧a<b)
theorem zi {P:List Int} {a b:Int} (h:brt P a b):¬ brt P b a:=fun h2=>by
  unfold brt at h h2; omega
theorem nL {P:List Int} {a b c:Int} (h:brt P a b) (h2:brt P b c):brt P a c:=by
  unfold brt at h h2 ⊢; omega
theorem rC {P:List Int} {a b:Int} (h:a≠b):brt P a b∨brt P b a:=by
  unfold brt; omega
def gu (P:List Int) (l:List Int) (q:Int→Bool) (i:Int):Prop:=i ∈ l∧q i=true∧∀ j ∈ l,q j=true→j=i∨brt P i j
theorem zZ {P l:List Int} {q:Int→Bool} {i j:Int} (h1:gu P l q i) (h2:gu P l q j):i=j:=by
  rcases h1.2.2 j h2.1 h2.2.1 with h | h
  · exact h.symm
  · rcases h2.2.2 i h1.1 h1.2.1 with h3 | h3
    · exact h3
    · exact absurd h3 (zi h)
theorem wu {P l:List Int} {q:Int→Bool} {k:Nat} (ho:l.Pairwise (brt P)) (hk:k<l.length) (hq:q (l.getD k 0)=true) (hn:∀ j,j<k→q (l.getD j 0)=false):gu P l q (l.getD k 0):=by
  refine ⟨by rw [List.getD_eq_getElem?_getD,List.getElem?_eq_getElem hk]; exact List.getElem_mem _,hq,fun j hj hqj=>?_⟩
  obtain ⟨m,hm,rfl⟩:=List.mem_iff_getElem.1 hj
  have e:l[m]=l.getD m 0:=by simp [List.getD_eq_getElem?_getD,List.getElem?_eq_getElem hm]
  rcases Nat.lt_trichotomy m k with h | h | h
  · rw [e] at hqj; rw [hn m h] at hqj; cases hqj
  · subst h; exact .inl e
  · right
    have:=List.pairwise_iff_getElem.1 ho k m hk hm h
    rw [show l.getD k 0=l[k] by simp [List.getD_eq_getElem?_getD,List.getElem?_eq_getElem hk]]
    exact this
def iM (P l:List Int) (q:Int→Bool) (k:Nat) (best:Int):Prop:=(best=-1∧∀ j,j<k→q (l.getD j 0)=false)∨(0≤best∧gu P (l.take k) q best)
section
variable {P l:List Int} {q:Int→Bool} {k:Nat} {best:Int}
theorem aBH:iM P l q 0 (-1):=.inl ⟨rfl,fun j hj=>by omega⟩
theorem jg (h:k<l.length):l.take (k+1)=l.take k++[l.getD k 0]:=by
  rw [List.take_add_one,List.getElem?_eq_getElem h]
  simp [List.getD_eq_getElem?_getD,List.getElem?_eq_getElem h]
theorem aBF {x:Int} (h:k≤l.length):x ∈ l.take k↔∃ j,j<k∧l.getD j 0=x:=by
  constructor
  · intro hx
    obtain ⟨j,hj,rfl⟩:=List.mem_iff_getElem.1 hx
    rw [List.length_take] at hj
    refine ⟨j,by omega,?_⟩
    rw [List.getElem_take]
    simp [List.getD_eq_getElem?_getD,List.getElem?_eq_getElem (show j<l.length by omega)]
  · rintro ⟨j,hj,rfl⟩
    refine List.mem_take_iff_getElem.2 ⟨j,by omega,?_⟩
    simp [List.getD_eq_getElem?_getD,List.getElem?_eq_getElem (show j<l.length by omega)]
theorem aAV (hk:k<l.length) (h:iM P l q k best) (hq:q (l.getD k 0)=false):iM P l q (k+1) best:=by
  rcases h with ⟨h1,h2⟩ | ⟨h1,h2⟩
  · exact .inl ⟨h1,fun j hj=>by
      by_cases hjk:j<k
      · exact h2 j hjk
      · rw [show j=k by omega]; exact hq⟩
  · refine .inr ⟨h1,?_⟩
    rw [jg hk]
    exact ⟨List.mem_append_left _ h2.1,h2.2.1,fun j hj hqj=>by
      rcases List.mem_append.1 hj with hj | hj
      · exact h2.2.2 j hj hqj
      · rw [List.mem_singleton.1 hj,hq] at hqj; cases hqj⟩
theorem zR (ho:l.Pairwise (·<·)) (hk:k<l.length) (h:iM P l q k best) (hb:¬ (best<0∨P.getD best.toNat 0<P.getD (l.getD k 0).toNat 0)):iM P l q (k+1) best:=by
  rcases h with ⟨h1,_⟩ | ⟨h1,h2⟩
  · omega
  · refine .inr ⟨h1,?_⟩
    rw [jg hk]
    refine ⟨List.mem_append_left _ h2.1,h2.2.1,fun j hj hqj=>?_⟩
    rcases List.mem_append.1 hj with hj | hj
    · exact h2.2.2 j hj hqj
    · rw [List.mem_singleton.1 hj]
      obtain ⟨m,hm,hme⟩:=(aBF (by omega)).1 h2.1
      have hlt:l.getD m 0<l.getD k 0:=by
        have:=List.pairwise_iff_getElem.1 ho m k (by omega) hk hm
        simpa [List.getD_eq_getElem?_getD,List.getElem?_eq_getElem hk,List.getElem?_eq_getElem (show m<l.length by omega)] using this
      rw [hme] at hlt
      right
      unfold brt
      omega
theorem pR (h:iM P l q l.length best):(best=-1∧∀ j ∈ l,q j=false)∨(0≤best∧gu P l q best):=by
  rcases h with ⟨h1,h2⟩ | ⟨h1,h2⟩
  · refine .inl ⟨h1,fun j hj=>?_⟩
    obtain ⟨m,hm,rfl⟩:=List.mem_iff_getElem.1 hj
    have:=h2 m hm
    simpa [List.getD_eq_getElem?_getD,List.getElem?_eq_getElem hm] using this
  · rw [List.take_length] at h2
    exact .inr ⟨h1,h2⟩
end
noncomputable def iL (P l:List Int) (q:Int→Bool):Int:=open Classical in if h:∃ i,gu P l q i then Classical.choose h else -1
theorem eO {P l:List Int} {q:Int→Bool} {i:Int} (h:gu P l q i):iL P l q=i:=by
  unfold iL
  have hex:∃ i,gu P l q i:=⟨i,h⟩
  rw [dif_pos hex]
  exact zZ (Classical.choose_spec hex) h
theorem gG {P l:List Int} {q:Int→Bool} (h:∀ j ∈ l,q j=false):iL P l q=-1:=by
  unfold iL
  rw [dif_neg]
  rintro ⟨i,h1⟩
  have:=h i h1.1
  rw [h1.2.1] at this; cases this
theorem sG {P l:List Int} {q:Int→Bool} {best:Int} (h:iM P l q l.length best):best=iL P l q:=by
  rcases pR h with ⟨h1,h2⟩ | ⟨_,h2⟩
  · rw [h1,gG h2]
  · rw [eO h2]
def ow (o:List Int) (i:Int):Int:=o.getD i.toNat (-1)
def oG (o:List Int) (k:Int):Bool:=decide (0≤ow o k)
def iE (W H:Nat) (o:List Int) (i:Int):Bool:=decide (ow o i<0)&&(nb W H i.toNat).any (oG o)
noncomputable def bq (P:List Int) (W H:Nat) (l o:List Int):Int:=iL P l (iE W H o)
noncomputable def byM (P:List Int) (W H:Nat) (o:List Int) (i:Int):Int:=iL P (nb W H i.toNat) (oG o)
noncomputable def jF (P:List Int) (W H:Nat) (l:List Int):Nat→List Int→List Int
  | 0,o=>o
  | f+1,o=>if bq P W H l o<0 then o else jF P W H l f (o.set (bq P W H l o).toNat (ow o (byM P W H o (bq P W H l o))))
def rR (l o:List Int):Nat:=l.countP fun i=>decide (ow o i<0)
theorem vE (l o:List Int):rR l o≤l.length:=List.countP_le_length
theorem jD {P l:List Int} {q:Int→Bool}:(∀ j ∈ l,q j=false)∨∃ i,gu P l q i:=by
  induction l with
  | nil=>exact .inl fun j hj=>by cases hj
  | cons x t ih =>
    cases hx:q x with
    | false =>
      rcases ih with h | ⟨i,h⟩
      · exact .inl fun j hj=>by
          rcases List.mem_cons.1 hj with rfl | hj
          · exact hx
          · exact h j hj
      · exact .inr ⟨i,List.mem_cons_of_mem _ h.1,h.2.1,fun j hj hqj=>by
          rcases List.mem_cons.1 hj with rfl | hj
          · rw [hx] at hqj; cases hqj
          · exact h.2.2 j hj hqj⟩
    | true =>
      rcases ih with h | ⟨i,h⟩
      · exact .inr ⟨x,List.mem_cons_self,hx,fun j hj hqj=>by
          rcases List.mem_cons.1 hj with rfl | hj
          · exact .inl rfl
          · rw [h j hj] at hqj; cases hqj⟩
      · by_cases hxi:x=i
        · subst hxi
          exact .inr ⟨x,List.mem_cons_self,hx,fun j hj hqj=>by
            rcases List.mem_cons.1 hj with rfl | hj
            · exact .inl rfl
            · exact h.2.2 j hj hqj⟩
        · rcases rC (P:=P) hxi with hb | hb
          · exact .inr ⟨x,List.mem_cons_self,hx,fun j hj hqj=>by
              rcases List.mem_cons.1 hj with rfl | hj
              · exact .inl rfl
              · rcases h.2.2 j hj hqj with e | h4
                · rw [e]; exact .inr hb
                · exact .inr (nL hb h4)⟩
          · exact .inr ⟨i,List.mem_cons_of_mem _ h.1,h.2.1,fun j hj hqj=>by
              rcases List.mem_cons.1 hj with rfl | hj
              · exact .inr hb
              · exact h.2.2 j hj hqj⟩
theorem pM {P:List Int} {W H:Nat} {l o:List Int} (hl:∀ i ∈ l,0≤i):(bq P W H l o=-1∧∀ i ∈ l,iE W H o i=false)∨(0≤bq P W H l o∧gu P l (iE W H o) (bq P W H l o)):=by
  unfold bq
  rcases jD (P:=P) (l:=l) (q:=iE W H o) with h | ⟨i,h⟩
  · exact .inl ⟨gG h,h⟩
  · rw [eO h]; exact .inr ⟨hl i h.1,h⟩
theorem tJ {o:List Int} {i j v:Int} (hi:0≤i) (hj:0≤j) (h:i.toNat<o.length):ow (o.set i.toNat v) j=if i=j then v else ow o j:=by
  unfold ow
  simp only [List.getD_eq_getElem?_getD,List.getElem?_set]
  by_cases e:i=j
  · subst e; rw [if_pos rfl,if_pos h,if_pos rfl]; rfl
  · rw [if_neg (by omega),if_neg e]
end Det

/- The parts of a set of pixels as the sets that neighbours join, in plain Lean. -/
namespace Det
theorem vC {W H x y:Nat} {v t:Int}:∀ {l:Nat},t ∈ eu W H x y v l↔∃ k:Nat,k<l∧jk W H x y ((x:Int)-1+(k:Int)) v=true∧t=v*(W:Int)+((x:Int)-1+(k:Int))
  | 0=>by simp [eu]
  | l+1=>by
    simp only [eu,List.mem_append]
    rw [vC (l:=l)]
    constructor
    · rintro (⟨k,h1,h2,h3⟩ | h)
      · exact ⟨k,by omega,h2,h3⟩
      · split at h
        · rename_i hc
          simp only [List.mem_singleton] at h
          exact ⟨l,by omega,hc,h⟩
        · simp at h
    · rintro ⟨k,h1,h2,h3⟩
      rcases Nat.lt_or_ge k l with hk | hk
      · exact .inl ⟨k,hk,h2,h3⟩
      · obtain rfl:k=l:=by omega
        exact .inr (by rw [if_pos h2]; simp [h3])
theorem rX {W H x y:Nat} {t:Int}:∀ {k:Nat},t ∈ dQ W H x y k↔∃ j l:Nat,j<k∧l<3∧jk W H x y ((x:Int)-1+(l:Int)) ((y:Int)-1+(j:Int))=true∧t=((y:Int)-1+(j:Int))*(W:Int)+((x:Int)-1+(l:Int))
  | 0=>by simp [dQ]
  | k+1=>by
    simp only [dQ,List.mem_append]
    rw [rX (k:=k),vC]
    constructor
    · rintro (⟨j,l,h1,h2,h3,h4⟩ | ⟨l,h1,h2,h3⟩)
      · exact ⟨j,l,by omega,h2,h3,h4⟩
      · exact ⟨k,l,by omega,h1,h2,h3⟩
    · rintro ⟨j,l,h1,h2,h3,h4⟩
      rcases Nat.lt_or_ge j k with hk | hk
      · exact .inl ⟨j,l,hk,h2,h3,h4⟩
      · obtain rfl:j=k:=by omega
        exact .inr ⟨l,h2,h3,h4⟩
def uw (a b:Nat):Prop:=a≤b+1∧b≤a+1
theorem aAb {W H i j:Nat} (hj:j<W*H):(j:Int) ∈ nb W H i↔¬ (j % W=i % W∧j/W=i/W)∧uw (i % W) (j % W)∧uw (i/W) (j/W):=by
  have hW:0<W:=Nat.pos_of_ne_zero (fun h=>by subst h; simp at hj)
  unfold nb
  rw [rX]
  generalize i % W=x
  generalize i/W=y
  have ha:=Nat.mod_lt j hW
  have hb:j/W<H:=Nat.div_lt_of_lt_mul hj
  have hjj:j=j/W*W+j % W:=(Nat.div_add_mod' j W).symm
  constructor
  · rintro ⟨q,l,h1,h2,h3,h4⟩
    simp only [jk,Bool.not_eq_true',Bool.or_eq_false_iff,Bool.and_eq_false_iff,decide_eq_false_iff_not] at h3
    obtain ⟨⟨⟨⟨g1,g2⟩,g3⟩,g4⟩,g5⟩:=h3
    obtain ⟨u,hu⟩:=Int.eq_ofNat_of_zero_le (show 0≤(x:Int)-1+(l:Int) by omega)
    obtain ⟨v,hv⟩:=Int.eq_ofNat_of_zero_le (show 0≤(y:Int)-1+(q:Int) by omega)
    rw [hu,hv] at h4
    have hu2:u<W:=by omega
    have h5:j=v*W+u:=by
      have:((j:Nat):Int)=((v*W+u:Nat):Int):=by rw [h4]; simp
      exact_mod_cast this
    have h6:j % W=u:=by rw [h5,Nat.mul_add_mod_self_right]; exact Nat.mod_eq_of_lt hu2
    have h7:j/W=v:=by rw [h5,Nat.mul_comm,Nat.mul_add_div hW,Nat.div_eq_of_lt hu2]; rfl
    unfold uw
    omega
  · unfold uw
    rintro ⟨h1,h2,h3⟩
    generalize j/W=b at *
    generalize j % W=a at *
    have e1:(x:Int)-1+((a+1-x:Nat):Int)=(a:Int):=by omega
    have e2:(y:Int)-1+((b+1-y:Nat):Int)=(b:Int):=by omega
    refine ⟨b+1-y,a+1-x,by omega,by omega,?_,?_⟩
    · rw [e1,e2]
      simp only [jk,Bool.not_eq_true',Bool.or_eq_false_iff,Bool.and_eq_false_iff,decide_eq_false_iff_not]
      omega
    · rw [e1,e2,hjj]
      simp
theorem oO {W H i j:Nat} (hi:i<W*H) (hj:j<W*H) (h:(j:Int) ∈ nb W H i):(i:Int) ∈ nb W H j:=by
  rw [aAb hj] at h
  rw [aAb hi]
  unfold uw at *
  omega
theorem rV {W H i j:Nat} (h:(j:Int) ∈ nb W H i):j<W*H:=by
  have:=jK h
  omega
inductive Rch (W H:Nat) (bs:List Bool) (a:Nat):Nat→Prop
  | refl:bs.getD a false=true→Rch W H bs a a
  | step {i j:Nat}:Rch W H bs a i→(j:Int) ∈ nb W H i→bs.getD j false=true→Rch W H bs a j
namespace Rch
variable {W H:Nat} {bs cs:List Bool} {a b c:Nat}
theorem left (h:Rch W H bs a b):bs.getD a false=true:=by
  induction h with
  | refl h=>exact h
  | step _ _ _ ih=>exact ih
theorem right (h:Rch W H bs a b):bs.getD b false=true:=by
  cases h with
  | refl h=>exact h
  | step _ _ h=>exact h
theorem trans (h:Rch W H bs a b) (h':Rch W H bs b c):Rch W H bs a c:=by
  induction h' with
  | refl _=>exact h
  | step _ h1 h2 ih=>exact .step ih h1 h2
theorem lt (hn:bs.length=W*H) (h:Rch W H bs a b):b<W*H:=by
  have:=h.right
  rcases Nat.lt_or_ge b bs.length with g | g
  · omega
  · rw [List.getD_eq_getElem?_getD,List.getElem?_eq_none g] at this; cases this
theorem symm (hn:bs.length=W*H) (h:Rch W H bs a b):Rch W H bs b a:=by
  induction h with
  | refl h=>exact .refl h
  | step h h1 h2 ih =>
    have hi:_<W*H:=h.lt hn
    have hj:=rV h1
    exact ((Rch.refl h2:Rch W H bs _ _).step (oO hi hj h1) h.right).trans ih
theorem mono (h:Rch W H bs a b) (hs:∀ i,bs.getD i false=true→cs.getD i false=true):Rch W H cs a b:=by
  induction h with
  | refl h=>exact .refl (hs _ h)
  | step _ h1 h2 ih=>exact .step ih h1 (hs _ h2)
theorem within (h:Rch W H bs a b) (ha:cs.getD a false=true) (hs:∀ i j:Nat,cs.getD i false=true→(j:Int) ∈ nb W H i→bs.getD j false=true→cs.getD j false=true):Rch W H cs a b:=by
  induction h with
  | refl h=>exact .refl ha
  | step _ h1 h2 ih=>exact .step ih h1 (hs _ _ ih.right h1 h2)
end Rch
theorem oh {l:List Int}:∀ {j:Nat} {s:List Bool × List Int},∃ m,(bU s l j).2=s.2++m
  | 0,s=>⟨[],by simp [bU]⟩
  | j+1,s=>by
    obtain ⟨m,hm⟩:=oh (l:=l) (j:=j) (s:=s)
    simp only [bU,dm]
    split
    · exact ⟨m++[l.getD j 0],by simp [hm]⟩
    · exact ⟨m,hm⟩
theorem pW {n:Nat} {l:List Int} (hl:∀ t ∈ l,0≤t∧t<(n:Int)):∀ {k:Nat} {s:List Bool × List Int},s.1.length=n→k≤l.length→∀ p,p<k→(bU s l k).1.getD (l.getD p 0).toNat false=false
  | 0,_,_,_,p,hp=>absurd hp (Nat.not_lt_zero _)
  | k+1,s,hs,hk,p,hp=>by
    rcases Nat.lt_or_ge p k with h | h
    · have:=pW hl (k:=k) hs (by omega) p h
      simp only [bU]
      cases hb:(dm (bU s l k) (l.getD k 0)).1.getD (l.getD p 0).toNat false with
      | false=>rfl
      | true=>rw [Sub.dm _ _ _ hb] at this; cases this
    · obtain rfl:p=k:=by omega
      simp only [bU,dm]
      split
      · simp only [List.getD_eq_getElem?_getD,List.getElem?_set]
        rw [if_pos trivial]
        split <;> rfl
      · rename_i hc; simpa using hc
theorem lU {l:List Int} (hl:∀ t ∈ l,0≤t):∀ {k:Nat} {s:List Bool × List Int},k≤l.length→∀ t ∈ (bU s l k).2,t ∈ s.2∨t ∈ l∧s.1.getD t.toNat false=true
  | 0,s,_,t,ht=>.inl ht
  | k+1,s,hk,t,ht=>by
    simp only [bU,dm] at ht
    split at ht
    · rename_i hc
      rcases List.mem_append.1 ht with h | h
      · exact lU hl (by omega) t h
      · simp only [List.mem_singleton] at h
        subst h
        exact .inr ⟨bL (by omega),Sub.bU _ _ _ _ hc⟩
    · exact lU hl (by omega) t ht
theorem nW {n:Nat} {l:List Int} (hl:∀ t ∈ l,0≤t∧t<(n:Int)):∀ {k:Nat} {s:List Bool × List Int},k≤l.length→∀ i:Nat,s.1.getD i false=true→(bU s l k).1.getD i false=true∨(i:Int) ∈ (bU s l k).2
  | 0,s,_,i,hi=>.inl hi
  | k+1,s,hk,i,hi=>by
    have h0:=hl _ (bL (l:=l) (j:=k) (by omega))
    have h00:=h0.1
    rcases nW hl (k:=k) (s:=s) (by omega) i hi with h | h
    · simp only [bU,dm]
      split
      · by_cases e:i=(l.getD k 0).toNat
        · right
          apply List.mem_append_right
          rw [show (i:Int)=l.getD k 0 from by omega]
          exact List.mem_singleton.2 rfl
        · left
          rw [List.getD_eq_getElem?_getD] at h ⊢
          rw [List.getElem?_set_ne (fun g=>e g.symm)]
          exact h
      · exact .inl h
    · right
      simp only [bU,dm]
      split
      · exact List.mem_append_left _ h
      · exact h
structure BfsOK (W H:Nat) (ins:List Bool) (first k:Nat) (s:List Bool × List Int):Prop where
  reach:∀ t ∈ s.2,∃ i:Nat,t=(i:Int)∧Rch W H ins first i
  done:∀ p,p<k→p<s.2.length→∀ t ∈ nb W H (s.2.getD p 0).toNat,s.1.getD t.toNat false=false
  left:∀ i:Nat,ins.getD i false=true→s.1.getD i false=true∨(i:Int) ∈ s.2
  first:(first:Int) ∈ s.2
theorem xG {W H first:Nat} {ins:List Bool} (hn:ins.length=W*H) (hf:first<W*H) (hi:ins.getD first false=true):∀ k,BfsOK W H ins first k (bfs W H ins first k)
  | 0=>by
    refine ⟨?_,fun p hp=>absurd hp (Nat.not_lt_zero _),?_,by simp [bfs]⟩
    · intro t ht
      simp only [bfs,List.mem_singleton] at ht
      exact ⟨first,ht,.refl hi⟩
    · intro i h
      simp only [bfs,List.mem_singleton]
      by_cases e:i=first
      · right; omega
      · left
        simp only [List.getD_eq_getElem?_getD] at h ⊢
        rw [List.getElem?_set_ne (by omega)]
        exact h
  | k+1=>by
    have ih:=xG hn hf hi k
    have hinv:=lu hn hf k
    have hsub:=Sub.bfs W H ins first k
    simp only [bfs]
    generalize bfs W H ins first k=s at *
    split
    · rename_i hk
      have hq:=hinv.2.2 _ (bL hk)
      generalize hc:s.2.getD k 0=c at *
      have hl:∀ t ∈ nb W H c.toNat,0≤t∧t<((W*H:Nat):Int):=fun t ht=>jK ht
      obtain ⟨m,hm⟩:=oh (l:=nb W H c.toNat) (j:=(nb W H c.toNat).length) (s:=s)
      refine ⟨?_,?_,?_,?_⟩
      · intro t ht
        rcases lU (fun t ht=>(hl t ht).1) (Nat.le_refl _) t ht with h | ⟨h1,h2⟩
        · exact ih.reach t h
        · obtain ⟨i,e,hr⟩:=ih.reach c (by rw [← hc]; exact bL hk)
          subst e
          have h3:=(hl t h1).1
          refine ⟨t.toNat,by omega,.step hr ?_ (hsub _ h2)⟩
          rw [Int.toNat_of_nonneg h3]
          simpa using h1
      · intro p hp hp2 t ht
        rcases Nat.lt_or_ge p k with h | h
        · rw [hm] at ht
          have e:(s.2++m).getD p 0=s.2.getD p 0:=by
            simp only [List.getD_eq_getElem?_getD]; rw [List.getElem?_append_left (by omega)]
          rw [e] at ht
          have h1:=ih.done p h (by omega) t ht
          cases hb:(bU s (nb W H c.toNat) (nb W H c.toNat).length).1.getD t.toNat false with
          | false=>rfl
          | true=>rw [Sub.bU _ _ _ _ hb] at h1; cases h1
        · obtain rfl:p=k:=by omega
          have e:(bU s (nb W H c.toNat) (nb W H c.toNat).length).2.getD p 0=c:=by
            rw [hm,← hc]
            simp only [List.getD_eq_getElem?_getD]; rw [List.getElem?_append_left (by omega)]
          rw [e] at ht
          obtain ⟨x,hx,he⟩:=List.mem_iff_getElem.1 ht
          have:=pW hl hinv.1 (Nat.le_refl _) x hx
          rw [show (nb W H c.toNat).getD x 0=t from by simp [List.getD_eq_getElem?_getD,List.getElem?_eq_getElem hx,he]] at this
          exact this
      · intro i h
        rcases ih.left i h with h1 | h1
        · exact nW hl (Nat.le_refl _) i h1
        · right; rw [hm]; exact List.mem_append_left _ h1
      · rw [hm]; exact List.mem_append_left _ ih.first
    · rename_i hk
      refine ⟨ih.reach,?_,ih.left,ih.first⟩
      intro p hp hp2 t ht
      exact ih.done p (by omega) hp2 t ht
theorem uU {W H first:Nat} {ins:List Bool}:∀ k,Inv2 (bfs W H ins first k)
  | 0=>Inv2.start
  | k+1=>by
    have ih:=uU (W:=W) (H:=H) (first:=first) (ins:=ins) k
    simp only [bfs]
    split
    · have:∀ (l:List Int),(∀ t ∈ l,0≤t)→∀ (s:List Bool × List Int),Inv2 s→∀ j,j≤l.length→Inv2 (bU s l j):=by
        intro l hl s hs j
        induction j with
        | zero=>intro _; exact hs
        | succ j ihj =>
          intro hj
          have h1:=ihj (by omega)
          simp only [bU,dm]
          split
          · rename_i hc
            have h0:=hl _ (bL (l:=l) (j:=j) (by omega))
            have e:l.getD j 0=(((l.getD j 0).toNat:Nat):Int):=by omega
            generalize (l.getD j 0).toNat=q at *
            rw [e]
            exact Inv2.take (ins:=(bU s l j).1) (l:=(bU s l j).2) h1 hc
          · exact h1
      exact this _ (fun t ht=>(jK ht).1) _ ih _ (Nat.le_refl _)
    · exact ih
theorem dO {W H first:Nat} {ins:List Bool} (hn:ins.length=W*H) (hi:ins.getD first false=true) (i:Nat) :
    (i:Int) ∈ (part W H ins first).2↔Rch W H ins first i:=by
  have hf:first<W*H:=(Rch.refl hi:Rch W H ins first first).lt hn
  have ho:=xG hn hf hi (W*H)
  have hv:=lu hn hf (W*H)
  unfold part
  simp only
  generalize bfs W H ins first (W*H)=s at *
  have hmem:(i:Int) ∈ asc (marks (W*H) s.2 s.2.length) (W*H)↔(i:Int) ∈ s.2:=by
    rw [jh]
    constructor
    · rintro ⟨q,e,hq,hm⟩
      obtain rfl:i=q:=by omega
      rw [gW hv.2.2 _ (Nat.le_refl _)] at hm
      simpa using hm
    · intro h
      refine ⟨i,rfl,by have:=hv.2.2 _ h; omega,?_⟩
      rw [gW hv.2.2 _ (Nat.le_refl _)]
      simpa using h
  rw [hmem]
  constructor
  · intro h
    obtain ⟨q,e,hr⟩:=ho.reach _ h
    obtain rfl:i=q:=by omega
    exact hr
  · intro h
    clear hmem
    induction h with
    | refl _=>exact ho.first
    | step h1 h2 h3 ih =>
      rename_i a b
      rcases ho.left b h3 with h | h
      · obtain ⟨x,hx,he⟩:=List.mem_iff_getElem.1 ih
        have:=ho.done x (by have:=hv.2.1; omega) hx (b:Int) (by
          rw [show s.2.getD x 0=(a:Int) from by simp [List.getD_eq_getElem?_getD,List.getElem?_eq_getElem hx,he]]
          simpa using h2)
        simp only [Int.toNat_natCast] at this
        rw [this] at h; cases h
      · exact h
theorem aAv {W H first:Nat} {ins:List Bool} (hn:ins.length=W*H) (hi:ins.getD first false=true) (i:Nat) :
    (part W H ins first).1.getD i false=true↔ins.getD i false=true∧¬ Rch W H ins first i:=by
  have hf:first<W*H:=(Rch.refl hi:Rch W H ins first first).lt hn
  have ho:=xG hn hf hi (W*H)
  have hv:=lu hn hf (W*H)
  have h2:=uU (W:=W) (H:=H) (first:=first) (ins:=ins) (W*H)
  have hp:=dO hn hi i
  have hmem:(i:Int) ∈ (part W H ins first).2↔(i:Int) ∈ (bfs W H ins first (W*H)).2:=by
    unfold part
    simp only
    rw [jh]
    constructor
    · rintro ⟨q,e,hq,hm⟩
      obtain rfl:i=q:=by omega
      rw [gW hv.2.2 _ (Nat.le_refl _)] at hm
      simpa using hm
    · intro h
      refine ⟨i,rfl,by have:=hv.2.2 _ h; omega,?_⟩
      rw [gW hv.2.2 _ (Nat.le_refl _)]
      simpa using h
  rw [hmem] at hp
  rw [← hp]
  constructor
  · intro h
    refine ⟨Sub.part _ _ _ _ _ h,fun hm=>?_⟩
    have:=(h2.2 _ hm).2
    simp only [Int.toNat_natCast] at this
    have h':(bfs W H ins first (W*H)).1.getD i false=true:=h
    rw [this] at h'; cases h'
  · rintro ⟨h1,h3⟩
    rcases ho.left i h1 with h | h
    · exact h
    · exact absurd h h3
theorem jX {W H first:Nat} {ins:List Bool}:(part W H ins first).2.Pairwise (·<·):=lY _
theorem fe {W H first:Nat} {ins:List Bool} {t:Int} (h:t ∈ (part W H ins first).2):0≤t∧t<((W*H:Nat):Int):=by
  unfold part at h
  obtain ⟨i,rfl,hi,_⟩:=jh.1 h
  omega
theorem aCT {W H a b:Nat} {ins cs:List Bool} (hn:ins.length=W*H) (hm:cs.length=W*H) (ha:ins.getD a false=true) (hb:cs.getD b false=true) (h:∀ i,Rch W H ins a i↔Rch W H cs b i) :
    (part W H ins a).2=(part W H cs b).2:=by
  apply ja jX jX
  intro t
  constructor
  · intro ht
    obtain ⟨i,rfl⟩:=Int.eq_ofNat_of_zero_le (fe ht).1
    exact (dO hm hb i).2 ((h i).1 ((dO hn ha i).1 ht))
  · intro ht
    obtain ⟨i,rfl⟩:=Int.eq_ofNat_of_zero_le (fe ht).1
    exact (dO hn ha i).2 ((h i).2 ((dO hm hb i).1 ht))
def aBx (W H:Nat) (bs:List Bool) (f:Nat):Prop:=bs.getD f false=true∧∀ i,Rch W H bs f i→f≤i
structure PartsOK (W H:Nat) (least:Int) (bs:List Bool) (k:Nat) (s:List Bool × List (List Int)):Prop where
  len:s.1.length=W*H
  sub:Sub s.1 bs
  gone:∀ i,i<k→s.1.getD i false=false
  closed:∀ i j:Nat,s.1.getD i false=true→(j:Int) ∈ nb W H i→bs.getD j false=true→s.1.getD j false=true
  mem:∀ x,x ∈ s.2↔∃ f,f<k∧aBx W H bs f∧x=(part W H bs f).2∧least≤(x.length:Int)
  out:∀ i,bs.getD i false=true→s.1.getD i false=false→∃ f,f<k∧aBx W H bs f∧Rch W H bs f i
  apart:s.2.Pairwise (fun a b=>∀ t ∈ a,t ∉ b)
  past:∀ x ∈ s.2,∀ i:Nat,(i:Int) ∈ x→s.1.getD i false=false
theorem gq {W H:Nat} {least:Int} {bs:List Bool} (hn:bs.length=W*H):∀ k,PartsOK W H least bs k (bR W H least bs k)
  | 0=>by
    refine ⟨hn,Sub.refl _,fun i hi=>absurd hi (Nat.not_lt_zero _),fun _ _ _ _ h=>h,?_,?_,.nil,?_⟩
    · intro x
      constructor
      · intro h; simp [bR] at h
      · rintro ⟨f,hf,_⟩; exact absurd hf (Nat.not_lt_zero _)
    · intro i h1 h2
      simp only [bR] at h2
      rw [h1] at h2; cases h2
    · intro x hx; simp [bR] at hx
  | k+1=>by
    have ih:=gq (least:=least) hn k
    simp only [bR]
    generalize bR W H least bs k=s at *
    obtain ⟨ins,xss⟩:=s
    simp only at *
    split
    · rename_i hc
      have hcb:=ih.sub _ hc
      have hlen:=ih.len
      have hkn:k<W*H:=(Rch.refl hc:Rch W H ins k k).lt hlen
      have hR:∀ i,Rch W H ins k i↔Rch W H bs k i:=fun i=>⟨fun h=>h.mono ih.sub,fun h=>h.within hc ih.closed⟩
      have hE:=aCT hlen hn hc hcb hR
      have hmin:aBx W H bs k:=⟨hcb,fun i hi=>by
        rcases Nat.lt_or_ge i k with h | h
        · have:=ih.gone i h
          rw [((hR i).2 hi).right] at this; cases this
        · exact h⟩
      have hO:=fun i=>aAv hlen hc i
      have hP:=fun i=>dO hlen hc i
      refine ⟨jr hlen hkn,?_,?_,?_,?_,?_,?_,?_⟩
      · exact fun i hi=>ih.sub i ((hO i).1 hi).1
      · intro i hi
        cases hb:(part W H ins k).1.getD i false with
        | false=>rfl
        | true =>
          obtain ⟨h1,h2⟩:=(hO i).1 hb
          rcases Nat.lt_or_ge i k with h | h
          · rw [ih.gone i h] at h1; cases h1
          · obtain rfl:i=k:=by omega
            exact absurd (Rch.refl h1) h2
      · intro i j h1 h2 h3
        obtain ⟨g1,g2⟩:=(hO i).1 h1
        refine (hO j).2 ⟨ih.closed i j g1 h2 h3,fun hr=>g2 ?_⟩
        have hj:=rV h2
        have hi:i<W*H:=(Rch.refl g1:Rch W H ins i i).lt hlen
        exact hr.step (oO hi hj h2) g1
      · intro x
        constructor
        · intro hx
          rcases List.mem_append.1 hx with h | h
          · obtain ⟨f,h1,h2⟩:=(ih.mem x).1 h
            exact ⟨f,by omega,h2⟩
          · split at h
            · rename_i hl
              simp only [List.mem_singleton] at h
              subst h
              exact ⟨k,by omega,hmin,hE,hl⟩
            · simp at h
        · rintro ⟨f,h1,h2,h3,h4⟩
          rcases Nat.lt_or_ge f k with h | h
          · exact List.mem_append_left _ ((ih.mem x).2 ⟨f,h,h2,h3,h4⟩)
          · obtain rfl:f=k:=by omega
            apply List.mem_append_right
            rw [if_pos (by rw [hE,← h3]; exact h4),hE,h3]
            simp
      · intro i h1 h2
        cases hb:ins.getD i false with
        | false =>
          obtain ⟨f,g1,g2⟩:=ih.out i h1 hb
          exact ⟨f,by omega,g2⟩
        | true =>
          refine ⟨k,by omega,hmin,?_⟩
          have:Rch W H ins k i:=Classical.byContradiction fun hn'=>by
            rw [(hO i).2 ⟨hb,hn'⟩] at h2; cases h2
          exact (hR i).1 this
      · rw [List.pairwise_append]
        refine ⟨ih.apart,?_,?_⟩
        · split
          · exact List.pairwise_singleton _ _
          · exact .nil
        · intro a ha b hb t ht htb
          split at hb
          · simp only [List.mem_singleton] at hb
            subst hb
            obtain ⟨i,rfl⟩:=Int.eq_ofNat_of_zero_le (fe htb).1
            have h1:=ih.past a ha i ht
            rw [((hP i).1 htb).right] at h1; cases h1
          · simp at hb
      · intro x hx i hi
        cases hb:(part W H ins k).1.getD i false with
        | false=>rfl
        | true =>
          obtain ⟨h1,h2⟩:=(hO i).1 hb
          rcases List.mem_append.1 hx with h | h
          · rw [ih.past x h i hi] at h1; cases h1
          · split at h
            · simp only [List.mem_singleton] at h
              subst h
              exact absurd ((hP i).1 hi) h2
            · simp at h
    · rename_i hc
      refine ⟨ih.len,ih.sub,?_,ih.closed,?_,?_,ih.apart,ih.past⟩
      · intro i hi
        rcases Nat.lt_or_ge i k with h | h
        · exact ih.gone i h
        · obtain rfl:i=k:=by omega
          simpa using hc
      · intro x
        rw [ih.mem x]
        constructor
        · rintro ⟨f,h1,h2⟩; exact ⟨f,by omega,h2⟩
        · rintro ⟨f,h1,h2,h3⟩
          rcases Nat.lt_or_ge f k with h | h
          · exact ⟨f,h,h2,h3⟩
          · obtain rfl:f=k:=by omega
            obtain ⟨g,g1,g2,g3⟩:=ih.out f h2.1 (by simpa using hc)
            have:=h2.2 g (g3.symm hn)
            omega
      · intro i h1 h2
        obtain ⟨f,g1,g2⟩:=ih.out i h1 h2
        exact ⟨f,by omega,g2⟩
end Det

namespace Det
section
variable (P:List Int) (W H:Nat) (l:List Int)
noncomputable def stepG (o:List Int):List Int:=o.set (bq P W H l o).toNat (ow o (byM P W H o (bq P W H l o)))
noncomputable def iG (o:List Int):Nat→List Int
  | 0=>o
  | n+1=>stepG P W H l (iG o n)
def Grows (o o':List Int):Prop:=∃ n,iG P W H l o n=o'∧∀ j,j<n→0≤bq P W H l (iG P W H l o j)
end
section
variable {P:List Int} {W H:Nat} {l o o1 o2:List Int}
theorem Grows.refl:Grows P W H l o o:=⟨0,rfl,fun j hj=>by omega⟩
theorem Grows.step (h:Grows P W H l o o1) (hn:0≤bq P W H l o1):Grows P W H l o (stepG P W H l o1):=by
  obtain ⟨n,rfl,h2⟩:=h
  refine ⟨n+1,rfl,fun j hj=>?_⟩
  by_cases hjn:j<n
  · exact h2 j hjn
  · rw [show j=n by omega]; exact hn
theorem Grows.uniq (h1:Grows P W H l o o1) (h2:Grows P W H l o o2) (e1:bq P W H l o1<0) (e2:bq P W H l o2<0):o1=o2:=by
  obtain ⟨n,rfl,g1⟩:=h1
  obtain ⟨m,rfl,g2⟩:=h2
  rcases Nat.lt_trichotomy n m with h | h | h
  · have:=g2 n h; omega
  · rw [h]
  · have:=g1 m h; omega
theorem mo:(stepG P W H l o).length=o.length:=by unfold stepG; rw [List.length_set]
theorem kg:∀ n,(iG P W H l o n).length=o.length
  | 0=>rfl
  | n+1=>by simp only [iG]; rw [mo,kg n]
theorem Grows.len (h:Grows P W H l o o1):o1.length=o.length:=by
  obtain ⟨n,rfl,_⟩:=h
  exact kg n
theorem qO (hl:∀ i ∈ l,0≤i) (h:0≤bq P W H l o):bq P W H l o ∈ l∧ow o (bq P W H l o)<0∧byM P W H o (bq P W H l o) ∈ nb W H (bq P W H l o).toNat∧0≤ow o (byM P W H o (bq P W H l o)):=by
  rcases pM (P:=P) (W:=W) (H:=H) (o:=o) hl with ⟨h1,_⟩ | ⟨_,h2⟩
  · omega
  · have h3:=h2.2.1
    unfold iE at h3
    rw [Bool.and_eq_true,decide_eq_true_eq,List.any_eq_true] at h3
    refine ⟨h2.1,h3.1,?_⟩
    obtain ⟨k,hk,hq⟩:=h3.2
    unfold byM
    rcases jD (P:=P) (l:=nb W H (bq P W H l o).toNat) (q:=oG o) with h4 | ⟨i,h4⟩
    · rw [h4 k hk] at hq; cases hq
    · rw [eO h4]
      have h5:=h4.2.1
      unfold oG at h5
      exact ⟨h4.1,by simpa using h5⟩
def bsO (o:List Int) (s:Int):List Bool:=o.map fun v=>decide (v=s)
theorem kz {s:Int} {i:Nat} (hs:0≤s):(bsO o s).getD i false=true↔ow o (i:Int)=s:=by
  unfold bsO ow
  simp only [List.getD_eq_getElem?_getD,List.getElem?_map,Int.toNat_natCast]
  cases o[i]? with
  | none=>simp; omega
  | some v=>simp
theorem aB9 {s:Int}:(bsO o s).length=o.length:=by unfold bsO; rw [List.length_map]
def uM (W H:Nat) (o:List Int):Prop:=∀ s:Int,0≤s→∀ a b:Nat,ow o (a:Int)=s→ow o (b:Int)=s→Rch W H (bsO o s) a b
theorem zU (hl:∀ i ∈ l,0≤i∧i<((W*H:Nat):Int)) (ho:o.length=W*H) (hc:uM W H o) (h:0≤bq P W H l o):uM W H (stepG P W H l o):=by
  obtain ⟨h1,h2,h3,h4⟩:=qO (fun i hi=>(hl i hi).1) h
  obtain ⟨i,hi⟩:∃ i:Nat,bq P W H l o=(i:Int):=⟨(bq P W H l o).toNat,by omega⟩
  have h5:=hl _ h1
  rw [hi] at h1 h2 h3 h4 h5
  obtain ⟨k,hk⟩:∃ k:Nat,byM P W H o (i:Int)=(k:Int):=⟨(byM P W H o (i:Int)).toNat,by have:=jK h3; omega⟩
  rw [hk,Int.toNat_natCast] at h3
  rw [hk] at h4
  have hs:∀ j:Nat,ow (stepG P W H l o) (j:Int)=if i=j then ow o (k:Int) else ow o (j:Int):=fun j=>by
    unfold stepG
    rw [hi,hk,tJ (by omega) (by omega) (by rw [ho]; omega)]
    by_cases e:i=j
    · rw [if_pos (by omega),if_pos e]
    · rw [if_neg (by omega),if_neg e]
  have hlen:(bsO (stepG P W H l o) (ow o (k:Int))).length=W*H:=by rw [aB9,mo,ho]
  have hkw:k<W*H:=rV h3
  have hki:k≠i:=fun e=>by subst e; omega
  intro s hs0 a b ha hb
  have hmono:∀ a b:Nat,ow o (a:Int)=s→ow o (b:Int)=s→Rch W H (bsO (stepG P W H l o) s) a b:=fun a b ha hb=>by
    refine (hc s hs0 a b ha hb).mono fun j hj=>?_
    rw [kz hs0] at hj ⊢
    rw [hs j]
    by_cases e:i=j
    · subst e; omega
    · rw [if_neg e]; exact hj
  rw [hs a] at ha
  rw [hs b] at hb
  by_cases hsk:ow o (k:Int)=s
  · subst hsk
    have hi':(bsO (stepG P W H l o) (ow o (k:Int))).getD i false=true:=by rw [kz hs0,hs i,if_pos rfl]
    have hk':(bsO (stepG P W H l o) (ow o (k:Int))).getD k false=true:=by rw [kz hs0,hs k,if_neg (by omega)]
    have hki2:Rch W H (bsO (stepG P W H l o) (ow o (k:Int))) k i:=(Rch.refl hk').step (oO (by omega) hkw h3) hi'
    have key:∀ c:Nat,(if i=c then ow o (k:Int) else ow o (c:Int))=ow o (k:Int)→Rch W H (bsO (stepG P W H l o) (ow o (k:Int))) k c:=fun c hc'=>by
      by_cases e:i=c
      · subst e; exact hki2
      · rw [if_neg e] at hc'; exact hmono k c rfl hc'
    exact ((key a ha).symm hlen).trans (key b hb)
  · by_cases e:i=a
    · rw [if_pos e] at ha; exact absurd ha hsk
    · by_cases e2:i=b
      · rw [if_pos e2] at hb; exact absurd hb hsk
      · rw [if_neg e] at ha; rw [if_neg e2] at hb
        exact hmono a b ha hb
theorem Grows.conn (hl:∀ i ∈ l,0≤i∧i<((W*H:Nat):Int)) (ho:o.length=W*H) (hc:uM W H o) (h:Grows P W H l o o1):uM W H o1:=by
  obtain ⟨n,rfl,h2⟩:=h
  induction n with
  | zero=>exact hc
  | succ n ih =>
    exact zU hl (by rw [kg,ho]) (ih fun j hj=>h2 j (by omega)) (h2 n (by omega))
theorem Grows.keep (hl:∀ i ∈ l,0≤i∧i<((W*H:Nat):Int)) (ho:o.length=W*H) (h:Grows P W H l o o1):∀ j:Int,0≤j→(0≤ow o j→ow o1 j=ow o j)∧(0≤ow o1 j→0≤ow o j∨j ∈ l)∧(0≤ow o1 j→∃ k:Int,0≤k∧ow o k=ow o1 j):=by
  obtain ⟨n,rfl,h2⟩:=h
  induction n with
  | zero=>exact fun j hj=>⟨fun _=>rfl,fun h=>.inl h,fun h=>⟨j,hj,rfl⟩⟩
  | succ n ih =>
    intro j hj
    have ih:=ih fun j hj=>h2 j (by omega)
    have h3:=qO (fun i hi=>(hl i hi).1) (h2 n (by omega))
    have h4:=hl _ h3.1
    have e:ow (iG P W H l o (n+1)) j=if bq P W H l (iG P W H l o n)=j then ow (iG P W H l o n) (byM P W H (iG P W H l o n) (bq P W H l (iG P W H l o n))) else ow (iG P W H l o n) j:=by
      simp only [iG]
      unfold stepG
      exact tJ h4.1 hj (by rw [kg,ho]; omega)
    rw [e]
    by_cases e2:bq P W H l (iG P W H l o n)=j
    · subst e2
      rw [if_pos rfl]
      refine ⟨fun h=>?_,fun _=>.inr h3.1,fun h=>?_⟩
      · have:=(ih _ hj).1 h; omega
      · exact (ih _ (by have:=jK h3.2.2.1; omega)).2.2 h
    · rw [if_neg e2]; exact ih j hj
theorem Grows.full {bs:List Bool} (hl:∀ i ∈ l,0≤i) (e:bq P W H l o1<0) (hb:∀ j:Nat,bs.getD j false=true→(j:Int) ∈ l) {a b:Nat} (h:Rch W H bs a b) (hbs:bs.length=W*H) (ha:0≤ow o1 (a:Int)):0≤ow o1 (b:Int):=by
  induction h with
  | refl _=>exact ha
  | @step i j hi hj hbj ih =>
    rcases pM (P:=P) (W:=W) (H:=H) (o:=o1) hl with ⟨_,h2⟩ | ⟨h1,_⟩
    · have h3:=h2 (j:Int) (hb j hbj)
      refine Decidable.byContradiction fun hn=>?_
      unfold iE at h3
      rw [Bool.and_eq_false_iff,decide_eq_false_iff_not,List.any_eq_false] at h3
      rcases h3 with h3 | h3
      · omega
      · have hiw:i<W*H:=hi.lt hbs
        have h4:=h3 (i:Int) (by rw [Int.toNat_natCast]; exact oO hiw (rV hj) hj)
        unfold oG at h4
        simp only [decide_eq_true_eq] at h4
        omega
    · omega
end
end Det

namespace Det
section
variable {P:List Int} {W H:Nat} {l o o1:List Int}
theorem kF:∀ n,iG P W H l o (n+1)=iG P W H l (stepG P W H l o) n
  | 0=>rfl
  | n+1=>by
    have ih:=kF n
    show stepG P W H l (iG P W H l o (n+1))=stepG P W H l (iG P W H l (stepG P W H l o) n)
    rw [ih]
theorem Grows.head (hn:0≤bq P W H l o) (h:Grows P W H l (stepG P W H l o) o1):Grows P W H l o o1:=by
  obtain ⟨n,rfl,h2⟩:=h
  refine ⟨n+1,kF n,fun j hj=>?_⟩
  cases j with
  | zero=>exact hn
  | succ j=>rw [kF]; exact h2 j (by omega)
theorem j6:∀ f o,Grows P W H l o (jF P W H l f o)
  | 0,o=>.refl
  | f+1,o=>by
    unfold jF
    split
    · exact .refl
    · rename_i h
      exact .head (by omega) (j6 f _)
theorem q8 {p q:Int→Bool}:∀ {l:List Int},(∀ x ∈ l,p x=true→q x=true)→(∃ x ∈ l,q x=true∧p x=false)→l.countP p<l.countP q
  | [],_,⟨x,hx,_⟩=>by cases hx
  | y::t,h,⟨x,hx,h1,h2⟩=>by
    have hle:t.countP p≤t.countP q:=List.countP_mono_left fun z hz=>h z (List.mem_cons_of_mem _ hz)
    rcases List.mem_cons.1 hx with rfl | hx
    · rw [List.countP_cons_of_pos h1,List.countP_cons_of_neg (by rw [h2]; decide)]
      omega
    · have ih:=q8 (fun z hz=>h z (List.mem_cons_of_mem _ hz)) ⟨x,hx,h1,h2⟩
      rw [List.countP_cons,List.countP_cons]
      have hy:=h y List.mem_cons_self
      cases hp:p y with
      | false=>simp; split <;> omega
      | true=>rw [hy hp]; simp; omega
theorem nK (hl:∀ i ∈ l,0≤i∧i<((W*H:Nat):Int)) (ho:o.length=W*H) (h:0≤bq P W H l o):rR l (stepG P W H l o)<rR l o:=by
  have h3:=qO (fun i hi=>(hl i hi).1) h
  have h4:=hl _ h3.1
  have e:∀ j:Int,0≤j→ow (stepG P W H l o) j=if bq P W H l o=j then ow o (byM P W H o (bq P W H l o)) else ow o j:=fun j hj=>by
    unfold stepG; exact tJ h4.1 hj (by rw [ho]; omega)
  unfold rR
  refine q8 (fun x hx hp=>?_) ⟨_,h3.1,by simpa using h3.2.1,?_⟩
  · rw [decide_eq_true_eq,e x (hl x hx).1] at hp
    rw [decide_eq_true_eq]
    split at hp
    · omega
    · exact hp
  · rw [decide_eq_false_iff_not,e _ h4.1,if_pos rfl]
    omega
theorem nM (hl:∀ i ∈ l,0≤i∧i<((W*H:Nat):Int)):∀ f o,o.length=W*H→rR l o≤f→bq P W H l (jF P W H l f o)<0
  | 0,o,ho,h=>by
    unfold jF
    refine Int.not_le.1 fun hn=>?_
    have:=nK hl ho hn
    omega
  | f+1,o,ho,h=>by
    unfold jF
    split
    · rename_i hn; exact hn
    · rename_i hn
      have:=nK (P:=P) hl ho (by omega)
      exact nM hl f _ (by rw [List.length_set]; exact ho) (by unfold stepG at this; omega)
end
def mkS (n:Nat) (px:List Int):List Bool:=(List.range n).map fun (i:Nat)=>decide ((i:Int) ∈ px)
def inM (P:List Int) (n:Nat) (px:List Int) (lv:Int):List Bool:=(List.range n).map fun (i:Nat)=>decide ((i:Int) ∈ px)&&decide (lv≤P.getD i 0)
def bN (P:List Int) (W H:Nat) (least:Int) (px:List Int) (lv:Int):List (List Int):=(bR W H least (inM P (W*H) px lv) (W*H)).2
def gJ (n:Nat) (seeds:List (List Int)):List Int:=(List.range n).map fun (i:Nat)=>match seeds.findIdx? (fun l=>decide ((i:Int) ∈ l)) with | some s=>(s:Int) | none=>-1
noncomputable def kT (P:List Int) (W H:Nat) (px:List Int) (seeds:List (List Int)):List Int:=jF P W H px px.length (gJ (W*H) seeds)
noncomputable def dM (P:List Int) (W H:Nat) (px:List Int) (seeds:List (List Int)):List (List Int) :=
  (List.range seeds.length).map fun (s:Nat)=>px.filter fun i=>decide (ow (kT P W H px seeds) i=(s:Int))
noncomputable def bA (P:List Int) (W H:Nat) (least:Int):List Int→List Int→List (List Int)
  | [],px=>[px]
  | lv::t,px=>if (bN P W H least px lv).length<2 then bA P W H least t px else (dM P W H px (bN P W H least px lv)).flatMap fun s=>bA P W H least t s
theorem get_map {n i:Nat} {f:Nat→Bool}:((List.range n).map f).getD i false=true↔i<n∧f i=true:=by
  simp only [List.getD_eq_getElem?_getD,List.getElem?_map]
  by_cases h:i<n
  · rw [List.getElem?_range h]; simp [h]
  · rw [List.getElem?_eq_none (by rw [List.length_range]; omega)]; simp [h]
theorem iP {n i:Nat} {px:List Int}:(mkS n px).getD i false=true↔i<n∧(i:Int) ∈ px:=by
  unfold mkS; rw [get_map,decide_eq_true_eq]
theorem mU {n:Nat} {px:List Int}:(mkS n px).length=n:=by unfold mkS; simp
theorem aC0 {P px:List Int} {n i:Nat} {lv:Int}:(inM P n px lv).getD i false=true↔i<n∧(i:Int) ∈ px∧lv≤P.getD i 0:=by
  unfold inM; rw [get_map,Bool.and_eq_true,decide_eq_true_eq,decide_eq_true_eq]
theorem iB {P px:List Int} {n:Nat} {lv:Int}:(inM P n px lv).length=n:=by unfold inM; simp
structure SetOK (W H:Nat) (px:List Int):Prop where
  asc:px.Pairwise (·<·)
  rng:∀ i ∈ px,0≤i∧i<((W*H:Nat):Int)
  conn:∀ a b:Nat,(a:Int) ∈ px→(b:Int) ∈ px→Rch W H (mkS (W*H) px) a b
  ne:px≠[]
theorem gX {n:Nat} {seeds:List (List Int)}:(gJ n seeds).length=n:=by unfold gJ; simp
theorem fu {n i s:Nat} {seeds:List (List Int)} (hap:seeds.Pairwise (fun a b=>∀ t ∈ a,t ∉ b)) (hi:i<n):ow (gJ n seeds) (i:Int)=(s:Int)↔∃ x,seeds[s]? = some x∧(i:Int) ∈ x:=by
  unfold ow gJ
  simp only [List.getD_eq_getElem?_getD,Int.toNat_natCast,List.getElem?_map,List.getElem?_range hi,Option.map_some,Option.getD_some]
  cases hf:seeds.findIdx? (fun l=>decide ((i:Int) ∈ l)) with
  | none =>
    simp only
    constructor
    · intro h; omega
    · rintro ⟨x,h1,h2⟩
      rw [List.findIdx?_eq_none_iff] at hf
      have:=hf x (List.mem_of_getElem? h1)
      simp [h2] at this
  | some q =>
    simp only
    rw [List.findIdx?_eq_some_iff_getElem] at hf
    obtain ⟨hq,h1,_⟩:=hf
    have h1:(i:Int) ∈ seeds[q]:=by simpa using h1
    constructor
    · intro h
      have:q=s:=by omega
      subst this
      exact ⟨seeds[q],List.getElem?_eq_getElem hq,h1⟩
    · rintro ⟨x,h3,h4⟩
      obtain ⟨hs,rfl⟩:=List.getElem?_eq_some_iff.1 h3
      rcases Nat.lt_trichotomy q s with h | h | h
      · exact absurd h4 (List.pairwise_iff_getElem.1 hap q s hq hs h _ h1)
      · rw [h]
      · exact absurd h1 (List.pairwise_iff_getElem.1 hap s q hs hq h _ h4)
theorem nG {n i:Nat} {seeds:List (List Int)} (h:0≤ow (gJ n seeds) (i:Int)):∃ s:Nat,ow (gJ n seeds) (i:Int)=(s:Int)∧s<seeds.length:=by
  unfold ow gJ at *
  simp only [List.getD_eq_getElem?_getD,Int.toNat_natCast,List.getElem?_map] at *
  by_cases hi:i<n
  · rw [List.getElem?_range hi] at *
    simp only [Option.map_some,Option.getD_some] at *
    cases hf:seeds.findIdx? (fun l=>decide ((i:Int) ∈ l)) with
    | none=>rw [hf] at h; simp at h
    | some q =>
      rw [List.findIdx?_eq_some_iff_getElem] at hf
      exact ⟨q,rfl,hf.1⟩
  · rw [List.getElem?_eq_none (by rw [List.length_range]; omega)] at h
    simp at h
theorem jZ:∀ {l m:List Int},l.Nodup→(∀ x ∈ l,x ∈ m)→l.length≤m.length
  | [],m,_,_=>Nat.zero_le _
  | x::t,m,hn,h=>by
    rw [List.nodup_cons] at hn
    have hx:=h x List.mem_cons_self
    have ih:=jZ (m:=m.erase x) hn.2 fun y hy=>by
      rw [List.mem_erase_of_ne (fun e=>hn.1 (by subst e; exact hy))]
      exact h y (List.mem_cons_of_mem _ hy)
    rw [List.length_erase_of_mem hx] at ih
    have:=List.length_pos_of_mem hx
    simp only [List.length_cons]
    omega
theorem iR {l:List Int} (h:l.Pairwise (·<·)):l.Nodup:=by
  rw [List.nodup_iff_pairwise_ne]
  exact h.imp fun h=>by omega
section
variable {P:List Int} {W H:Nat} {least lv:Int} {px:List Int}
theorem sP (h:SetOK W H px) (hleast:1≤least) (h2:¬ (bN P W H least px lv).length<2) :
    (∀ x ∈ dM P W H px (bN P W H least px lv),SetOK W H x∧least≤(x.length:Int)∧∀ i ∈ x,i ∈ px) ∧
    (dM P W H px (bN P W H least px lv)).Pairwise (fun a b=>∀ t ∈ a,t ∉ b) ∧
    (∀ i ∈ px,∃ x ∈ dM P W H px (bN P W H least px lv),i ∈ x):=by
  have hpo:=gq (W:=W) (H:=H) (least:=least) (bs:=inM P (W*H) px lv) iB (W*H)
  obtain ⟨seeds,hseeds⟩:∃ s,s=bN P W H least px lv:=⟨_,rfl⟩
  rw [← hseeds] at h2 ⊢
  have hap:seeds.Pairwise (fun a b=>∀ t ∈ a,t ∉ b):=by rw [hseeds]; exact hpo.apart
  have hmem:∀ x ∈ seeds,∃ f,(inM P (W*H) px lv).getD f false=true∧x=(part W H (inM P (W*H) px lv) f).2∧least≤(x.length:Int):=fun x hx=>by
    rw [hseeds] at hx
    obtain ⟨f,_,h3,h4,h5⟩:=(hpo.mem x).1 hx
    exact ⟨f,h3.1,h4,h5⟩
  have hg:Grows P W H px (gJ (W*H) seeds) (kT P W H px seeds):=j6 _ _
  have he:bq P W H px (kT P W H px seeds)<0:=nM h.rng _ _ gX (vE _ _)
  have hlen:(kT P W H px seeds).length=W*H:=by rw [hg.len,gX]
  have hc0:uM W H (gJ (W*H) seeds):=fun s hs0 a b ha hb=>by
    obtain ⟨q,rfl⟩:∃ q:Nat,s=(q:Int):=⟨s.toNat,by omega⟩
    have hlt:∀ c:Nat,ow (gJ (W*H) seeds) (c:Int)=(q:Int)→c<W*H:=fun c hc=>by
      refine Decidable.byContradiction fun hn=>?_
      unfold ow at hc
      rw [List.getD_eq_getElem?_getD,Int.toNat_natCast,List.getElem?_eq_none (by rw [gX]; omega)] at hc
      simp at hc
    obtain ⟨x,h3,h4⟩:=(fu hap (hlt a ha)).1 ha
    obtain ⟨y,h5,h6⟩:=(fu hap (hlt b hb)).1 hb
    rw [h3] at h5; cases h5
    obtain ⟨f,h7,rfl,_⟩:=hmem x (List.mem_of_getElem? h3)
    have h8:=(dO iB h7 a).1 h4
    have h9:=(dO iB h7 b).1 h6
    have h10:Rch W H (inM P (W*H) px lv) a b:=(h8.symm iB).trans h9
    refine h10.within ((kz hs0).2 ha) fun i j hi hj hbj=>?_
    rw [kz hs0] at hi ⊢
    obtain ⟨z,h11,h12⟩:=(fu hap (hlt i hi)).1 hi
    rw [h3] at h11; cases h11
    refine (fu hap (rV hj)).2 ⟨_,h3,(dO iB h7 j).2 ?_⟩
    exact ((dO iB h7 i).1 h12).step hj hbj
  have hc:=hg.conn h.rng gX hc0
  have hk:=fun j:Int=>hg.keep h.rng gX j
  have hmark:∀ c:Nat,∀ s:Nat,ow (kT P W H px seeds) (c:Int)=(s:Int)→c<W*H:=fun c s hcs=>by
    refine Decidable.byContradiction fun hn=>?_
    unfold ow at hcs
    rw [List.getD_eq_getElem?_getD,Int.toNat_natCast,List.getElem?_eq_none (by rw [hlen]; omega)] at hcs
    simp at hcs
  have hin:∀ c:Nat,∀ s:Nat,ow (kT P W H px seeds) (c:Int)=(s:Int)→(c:Int) ∈ px:=fun c s hcs=>by
    rcases (hk (c:Int) (by omega)).2.1 (by omega) with h3 | h3
    · obtain ⟨q,h4,_⟩:=nG h3
      obtain ⟨x,h5,h6⟩:=(fu hap (hmark c s hcs)).1 h4
      obtain ⟨f,h7,rfl,_⟩:=hmem x (List.mem_of_getElem? h5)
      exact (aC0.1 ((dO iB h7 c).1 h6).right).2.1
    · exact h3
  have hseed:∀ (s:Nat) x,seeds[s]? = some x→∀ t ∈ x,t ∈ px∧ow (kT P W H px seeds) t=(s:Int):=fun s x hx t ht=>by
    obtain ⟨f,h7,h8,_⟩:=hmem x (List.mem_of_getElem? hx)
    have hr:=fe (h8▸ht)
    obtain ⟨c,rfl⟩:∃ c:Nat,t=(c:Int):=⟨t.toNat,by omega⟩
    have h0:=(fu (n:=W*H) hap (by omega)).2 ⟨x,hx,ht⟩
    have h1:=(hk (c:Int) (by omega)).1 (by omega)
    rw [h0] at h1
    exact ⟨hin c s h1,h1⟩
  refine ⟨fun x hx=>?_,?_,fun i hi=>?_⟩
  · obtain ⟨s,hs,rfl⟩:=List.mem_map.1 hx
    rw [List.mem_range] at hs
    have hsx:=List.getElem?_eq_getElem hs
    obtain ⟨f,h7,h8,h9⟩:=hmem _ (List.getElem_mem hs)
    have hasc:(seeds[s]).Pairwise (·<·):=by rw [h8]; exact jX
    have hle:(seeds[s]).length≤(px.filter fun i=>decide (ow (kT P W H px seeds) i=(s:Int))).length:=jZ (iR hasc) fun t ht=>by
      have:=hseed s _ hsx t ht
      exact List.mem_filter.2 ⟨this.1,by simpa using this.2⟩
    refine ⟨⟨h.asc.sublist List.filter_sublist,fun i hi=>h.rng i (List.mem_filter.1 hi).1,fun a b ha hb=>?_,fun he=>?_⟩,by omega,fun i hi=>(List.mem_filter.1 hi).1⟩
    · have ha2:=(List.mem_filter.1 ha).2
      have hb2:=(List.mem_filter.1 hb).2
      rw [decide_eq_true_eq] at ha2 hb2
      refine (hc (s:Int) (by omega) a b ha2 hb2).mono fun j hj=>?_
      rw [kz (by omega)] at hj
      exact iP.2 ⟨hmark j s hj,List.mem_filter.2 ⟨hin j s hj,by simpa using hj⟩⟩
    · rw [he] at hle
      simp at hle
      rw [hle] at h9
      simp at h9
      omega
  · unfold dM
    rw [List.pairwise_map]
    refine List.Pairwise.imp ?_ (List.nodup_range (n:=seeds.length) |> fun hn=>by rw [List.nodup_iff_pairwise_ne] at hn; exact hn)
    intro a b hab t ha hb
    have h3:=(List.mem_filter.1 ha).2
    have h4:=(List.mem_filter.1 hb).2
    rw [decide_eq_true_eq] at h3 h4
    omega
  ·
    have hr:=h.rng i hi
    obtain ⟨c,rfl⟩:∃ c:Nat,i=(c:Int):=⟨i.toNat,by omega⟩
    have h0:0<seeds.length:=by omega
    obtain ⟨f,h7,h8,h9⟩:=hmem _ (List.getElem_mem h0)
    have hne:seeds[0]≠[]:=fun e=>by rw [e] at h9; simp at h9; omega
    obtain ⟨t,ht⟩:=List.exists_mem_of_ne_nil _ hne
    have h10:=hseed 0 _ (List.getElem?_eq_getElem h0) t ht
    have hr2:=h.rng t h10.1
    obtain ⟨a,rfl⟩:∃ a:Nat,t=(a:Int):=⟨t.toNat,by omega⟩
    have h11:=h.conn a c h10.1 hi
    have h12:=Grows.full (P:=P) (o1:=kT P W H px seeds) (fun i hi=>(h.rng i hi).1) he (fun j hj=>(iP.1 hj).2) h11 mU (by rw [h10.2]; omega)
    obtain ⟨k,hk0,hk1⟩:=(hk (c:Int) (by omega)).2.2 h12
    obtain ⟨k',rfl⟩:∃ k':Nat,k=(k':Int):=⟨k.toNat,by omega⟩
    obtain ⟨s,hs1,hs2⟩:=nG (n:=W*H) (seeds:=seeds) (i:=k') (by rw [hk1]; exact h12)
    refine ⟨_,List.mem_map.2 ⟨s,List.mem_range.2 hs2,rfl⟩,List.mem_filter.2 ⟨hi,?_⟩⟩
    rw [decide_eq_true_eq,← hk1,hs1]
theorem bn (hleast:1≤least):∀ (levels px:List Int),SetOK W H px →
    (∀ x ∈ bA P W H least levels px,SetOK W H x∧(least≤(x.length:Int)∨px.length≤x.length)∧∀ i ∈ x,i ∈ px) ∧
    (bA P W H least levels px).Pairwise (fun a b=>∀ t ∈ a,t ∉ b)∧(∀ i ∈ px,∃ x ∈ bA P W H least levels px,i ∈ x)
  | [],px,h=>by
    unfold bA
    refine ⟨fun x hx=>?_,List.pairwise_singleton _ _,fun i hi=>⟨px,by simp,hi⟩⟩
    rw [List.mem_singleton.1 hx]
    exact ⟨h,.inr (Nat.le_refl _),fun i hi=>hi⟩
  | lv::t,px,h=>by
    unfold bA
    split
    · exact bn hleast t px h
    · rename_i h2
      obtain ⟨h3,h4,h5⟩:=sP h hleast h2
      refine ⟨fun x hx=>?_,?_,fun i hi=>?_⟩
      · obtain ⟨s,hs,hx⟩:=List.mem_flatMap.1 hx
        obtain ⟨g1,g2,g3⟩:=h3 s hs
        obtain ⟨k1,k2,k3⟩:=(bn hleast t s g1).1 x hx
        exact ⟨k1,.inl (by rcases k2 with k2 | k2 <;> omega),fun i hi=>g3 i (k3 i hi)⟩
      · rw [List.pairwise_flatMap]
        refine ⟨fun s hs=>(bn hleast t s (h3 s hs).1).2.1,?_⟩
        refine List.Pairwise.imp_of_mem ?_ h4
        intro a b ha hb hab x hx y hy q hq hq2
        exact hab q (((bn hleast t a (h3 a ha).1).1 x hx).2.2 q hq) (((bn hleast t b (h3 b hb).1).1 y hy).2.2 q hq2)
      · obtain ⟨s,hs,hi2⟩:=h5 i hi
        obtain ⟨x,hx,hix⟩:=(bn hleast t s (h3 s hs).1).2.2 i hi2
        exact ⟨x,List.mem_flatMap.2 ⟨s,hs,hx⟩,hix⟩
end
end Det

namespace Det
section
variable {P:List Int} {W H:Nat} {d:Int}
def shP (P:List Int) (d:Int):List Int:=P.map (·+d)
theorem aCw:(shP P d).length=P.length:=by unfold shP; simp
theorem nC {i:Nat} (h:i<P.length):(shP P d).getD i 0=P.getD i 0+d:=by
  unfold shP
  simp only [List.getD_eq_getElem?_getD,List.getElem?_map,List.getElem?_eq_getElem h,Option.map_some,Option.getD_some]
theorem aD6 {a b:Int} (ha:0≤a∧a<(P.length:Int)) (hb:0≤b∧b<(P.length:Int)):brt (shP P d) a b↔brt P a b:=by
  unfold brt
  rw [nC (show a.toNat<P.length by omega),nC (show b.toNat<P.length by omega)]
  omega
theorem aCi {l:List Int} {q:Int→Bool} {i:Int} (hl:∀ x ∈ l,0≤x∧x<(P.length:Int)) (h:gu P l q i):gu (shP P d) l q i :=
  ⟨h.1,h.2.1,fun j hj hq=>(h.2.2 j hj hq).imp_right (aD6 (hl i h.1) (hl j hj)).2⟩
theorem nQ {l:List Int} {q:Int→Bool} (hl:∀ x ∈ l,0≤x∧x<(P.length:Int)):iL (shP P d) l q=iL P l q:=by
  rcases jD (P:=P) (l:=l) (q:=q) with h | ⟨i,h⟩
  · rw [gG h,gG h]
  · rw [eO h,eO (aCi hl h)]
theorem aBf {l o:List Int} (hl:∀ x ∈ l,0≤x∧x<(P.length:Int)):bq (shP P d) W H l o=bq P W H l o:=nQ hl
theorem aDZ {o:List Int} {i:Int} (hP:P.length=W*H):byM (shP P d) W H o i=byM P W H o i :=
  nQ fun x hx=>by rw [hP]; exact jK hx
theorem vK {l:List Int} (hP:P.length=W*H) (hl:∀ x ∈ l,0≤x∧x<(P.length:Int)):∀ f o,jF (shP P d) W H l f o=jF P W H l f o
  | 0,o=>rfl
  | f+1,o=>by
    unfold jF
    rw [aBf hl,aDZ hP,vK hP hl f]
theorem aEA {px:List Int} {lv:Int} (hP:P.length=W*H):inM (shP P d) (W*H) px (lv+d)=inM P (W*H) px lv:=by
  unfold inM
  refine List.map_congr_left fun i hi=>?_
  rw [nC (by rw [hP]; exact List.mem_range.1 hi)]
  congr 1
  exact decide_eq_decide.2 (by omega)
theorem aAM {least:Int} {px:List Int} {lv:Int} (hP:P.length=W*H):bN (shP P d) W H least px (lv+d)=bN P W H least px lv:=by
  unfold bN
  rw [aEA hP]
theorem aBU {px:List Int} {seeds:List (List Int)} (hP:P.length=W*H) (hl:∀ x ∈ px,0≤x∧x<(P.length:Int)):dM (shP P d) W H px seeds=dM P W H px seeds:=by
  unfold dM kT
  rw [vK hP hl]
theorem aAA {px s:List Int} {seeds:List (List Int)} (h:s ∈ dM P W H px seeds):∀ x ∈ s,x ∈ px:=by
  unfold dM at h
  obtain ⟨k,_,rfl⟩:=List.mem_map.1 h
  exact fun x hx=>(List.mem_filter.1 hx).1
theorem lg {least:Int} (hP:P.length=W*H):∀ (levels px:List Int),(∀ x ∈ px,0≤x∧x<(P.length:Int))→bA (shP P d) W H least (levels.map (·+d)) px=bA P W H least levels px
  | [],px,_=>rfl
  | lv::t,px,hl=>by
    simp only [List.map_cons]
    unfold bA
    rw [aAM hP,aBU hP hl,lg hP t px hl]
    split
    · rfl
    · rw [List.flatMap_def,List.flatMap_def]
      congr 1
      exact List.map_congr_left fun s hs=>lg hP t s fun x hx=>hl x (aAA hs x hx)
end
end Det

namespace Det
section
variable {P:List Int} {W H:Nat} {least d:Int} {bs:List Bool}
theorem lX {f:Nat} (hn:bs.length=W*H) (hi:bs.getD f false=true):SetOK W H (part W H bs f).2:=by
  refine ⟨jX,fun i h=>fe h,fun a b ha hb=>?_,fun e=>?_⟩
  · have h8:=(dO hn hi a).1 ha
    have h9:=(dO hn hi b).1 hb
    have ha0:=fe ha
    refine ((h8.symm hn).trans h9).within (iP.2 ⟨by omega,ha⟩) fun i j hi2 hj hbj=>?_
    exact iP.2 ⟨rV hj,(dO hn hi j).2 (((dO hn hi i).1 (iP.1 hi2).2).step hj hbj)⟩
  · have:=(dO hn hi f).2 (.refl hi)
    rw [e] at this; cases this
noncomputable def eX (P:List Int) (W H:Nat) (least:Int) (levels:List Int) (bs:List Bool):List (List Int) :=
  (bR W H least bs (W*H)).2.flatMap (bA P W H least levels)
theorem pI (hleast:1≤least) (hn:bs.length=W*H) (levels:List Int):(∀ x ∈ eX P W H least levels bs,SetOK W H x)∧(eX P W H least levels bs).Pairwise (fun a b=>∀ t ∈ a,t ∉ b):=by
  have hpo:=gq (W:=W) (H:=H) (least:=least) (bs:=bs) hn (W*H)
  have h3:∀ s ∈ (bR W H least bs (W*H)).2,SetOK W H s:=fun s hs=>by
    obtain ⟨f,_,h3,h4,_⟩:=(hpo.mem s).1 hs
    rw [h4]
    exact lX hn h3.1
  unfold eX
  refine ⟨fun x hx=>?_,?_⟩
  · obtain ⟨s,hs,hx⟩:=List.mem_flatMap.1 hx
    exact ((bn hleast levels s (h3 s hs)).1 x hx).1
  · rw [List.pairwise_flatMap]
    refine ⟨fun s hs=>(bn hleast levels s (h3 s hs)).2.1,?_⟩
    refine List.Pairwise.imp_of_mem ?_ hpo.apart
    intro a b ha hb hab x hx y hy q hq hq2
    exact hab q (((bn hleast levels a (h3 a ha)).1 x hx).2.2 q hq) (((bn hleast levels b (h3 b hb)).1 y hy).2.2 q hq2)
theorem aBa (hP:P.length=W*H) (hleast:1≤least) (hn:bs.length=W*H) (levels:List Int):eX (shP P d) W H least (levels.map (·+d)) bs=eX P W H least levels bs:=by
  have hpo:=gq (W:=W) (H:=H) (least:=least) (bs:=bs) hn (W*H)
  unfold eX
  rw [List.flatMap_def,List.flatMap_def]
  congr 1
  refine List.map_congr_left fun s hs=>lg hP levels s fun x hx=>?_
  obtain ⟨f,_,h3,h4,_⟩:=(hpo.mem s).1 hs
  rw [hP]
  exact fe (h4▸hx)
noncomputable def dP (P l:List Int):Int:=iL P l fun _=>true
def fP (P l:List Int):Int:=(l.map fun i=>P.getD i.toNat 0).sum
theorem qf {l:List Int} (h:l≠[]):gu P l (fun _=>true) (dP P l):=by
  unfold dP
  rcases jD (P:=P) (l:=l) (q:=fun _=>true) with h1 | ⟨i,h1⟩
  · cases l with
    | nil=>exact absurd rfl h
    | cons x t=>have:=h1 x List.mem_cons_self; cases this
  · rw [eO h1]; exact h1
theorem ou {l:List Int} (h:l≠[]):dP P l ∈ l:=(qf h).1
theorem aCB {l:List Int} (hl:∀ x ∈ l,0≤x∧x<(P.length:Int)):dP (shP P d) l=dP P l:=nQ hl
theorem wP {a b:List Int} (ha:a≠[]) (hb:b≠[]) (h:∀ t ∈ a,t ∉ b):dP P a≠dP P b:=fun e =>
  h _ (ou (P:=P) ha) (e▸ou (P:=P) hb)
theorem aAr:∀ {l:List Int},(∀ x ∈ l,0≤x∧x<(P.length:Int))→fP (shP P d) l=fP P l+d*(l.length:Int)
  | [],_=>by simp [fP]
  | x::t,h=>by
    have ih:=aAr (l:=t) fun y hy=>h y (List.mem_cons_of_mem _ hy)
    have hx:=h x List.mem_cons_self
    have h1:=nC (P:=P) (d:=d) (i:=x.toNat) (by omega)
    unfold fP at ih ⊢
    simp only [List.map_cons,List.sum_cons,List.length_cons]
    rw [ih,h1]
    have h2:d*((t.length+1:Nat):Int)=d*(t.length:Int)+d:=by rw [Int.natCast_add,Int.mul_add]; simp
    rw [h2]
    omega
theorem vT {l:List Int} {k:Nat} (h:k<l.length):fP P (l.take (k+1))=fP P (l.take k)+P.getD (l.getD k 0).toNat 0:=by
  unfold fP
  rw [jg h,List.map_append,List.sum_append]
  simp
theorem aBm {B:Int}:∀ {l:List Int},(∀ i ∈ l,-B≤P.getD i.toNat 0∧P.getD i.toNat 0≤B)→-(B*(l.length:Int))≤fP P l∧fP P l≤B*(l.length:Int)
  | [],_=>by simp [fP]
  | x::t,h=>by
    have ih:=aBm (l:=t) fun y hy=>h y (List.mem_cons_of_mem _ hy)
    have hx:=h x List.mem_cons_self
    unfold fP at ih ⊢
    simp only [List.map_cons,List.sum_cons,List.length_cons]
    have h2:B*((t.length+1:Nat):Int)=B*(t.length:Int)+B:=by rw [Int.natCast_add,Int.mul_add]; simp
    rw [h2]
    omega
end
end Det

namespace Det
theorem uP {α:Type} {lt:α→α→Prop} (ha:∀ a b,lt a b→¬ lt b a) {l m:List α} (hp:l.Perm m) (hl:l.Pairwise lt) (hm:m.Pairwise lt):l=m :=
  List.Perm.eq_of_pairwise (le:=lt) (fun a b _ _ h1 h2=>absurd h2 (ha a b h1)) hl hm hp
structure Apart (l:List (List Int)):Prop where
  ne:∀ x ∈ l,x≠[]
  ap:l.Pairwise (fun a b=>∀ t ∈ a,t ∉ b)
theorem Apart.perm {l m:List (List Int)} (h:Apart l) (hp:l.Perm m):Apart m :=
  ⟨fun x hx=>h.ne x (hp.mem_iff.2 hx),(hp.pairwise_iff fun {a b} hab t ht h2=>hab t h2 ht).1 h.ap⟩
def fU (l:List Int):Int:=l.getD 0 0
theorem sO {l:List Int} (h:l≠[]):fU l ∈ l:=by
  cases l with
  | nil=>exact absurd rfl h
  | cons x t=>simp [fU]
theorem Apart.fst {l:List (List Int)} (h:Apart l):l.Pairwise fun a b=>fU a≠fU b :=
  h.ap.imp_of_mem fun {a b} ha hb hab e=>hab _ (sO (h.ne a ha)) (e▸sO (h.ne b hb))
def kJ (l:List (List Int)):List (List Int):=l.mergeSort fun a b=>decide (fU a≤fU b)
theorem p8 {l:List (List Int)}:(kJ l).Perm l:=List.mergeSort_perm _ _
theorem aBQ {l:List (List Int)}:(kJ l).Pairwise fun a b=>fU a≤fU b :=
  (List.pairwise_mergeSort (le:=fun a b=>decide (fU a≤fU b)) (fun a b c h1 h2=>by simp only [decide_eq_true_eq] at h1 h2 ⊢; omega) (fun a b=>by simp only [Bool.or_eq_true,decide_eq_true_eq]; omega) l).imp fun {a b} h=>by simpa using h
theorem aDN {l m:List (List Int)} (h:Apart l) (hp:m.Perm l) (hm:m.Pairwise fun a b=>fU a≤fU b):m.Pairwise fun a b=>fU a<fU b :=
  (hm.and (h.perm hp.symm).fst).imp fun {a b} h=>by omega
theorem pY {l m:List (List Int)} (h:Apart l) (hp:m.Perm l) (hm:m.Pairwise fun a b=>fU a≤fU b):m=kJ l :=
  uP (lt:=fun a b=>fU a<fU b) (fun a b h1 h2=>by omega) (hp.trans p8.symm) (aDN h hp hm) (aDN h p8 aBQ)
structure Blob where
  px:List Int
  peak:Int
  sum:Int
deriving Inhabited
noncomputable def dK (P l:List Int):Blob:=⟨l,dP P l,fP P l⟩
def leB (a b:Blob):Prop:=b.sum<a.sum∨(a.sum=b.sum∧a.peak≤b.peak)
instance:DecidableRel leB:=fun a b=>by unfold leB; infer_instance
theorem aAF {a b c:Blob} (h1:leB a b) (h2:leB b c):leB a c:=by unfold leB at *; omega
def ltB (a b:Blob):Prop:=b.sum<a.sum∨(a.sum=b.sum∧a.peak<b.peak)
noncomputable def dG (P:List Int) (l:List (List Int)):List Blob:=(l.map (dK P)).mergeSort fun a b=>decide (leB a b)
theorem fA {P:List Int} {l:List (List Int)}:(dG P l).Perm (l.map (dK P)):=List.mergeSort_perm _ _
theorem vZ {P:List Int} {l:List (List Int)}:(dG P l).Pairwise leB :=
  (List.pairwise_mergeSort (le:=fun a b=>decide (leB a b)) (fun a b c h1 h2=>decide_eq_true (aAF (of_decide_eq_true h1) (of_decide_eq_true h2))) (fun a b=>by rw [Bool.or_eq_true,decide_eq_true_eq,decide_eq_true_eq]; unfold leB; omega) _).imp fun {a b} h=>by simpa using h
theorem Apart.peaks {P:List Int} {l:List (List Int)} (h:Apart l):(l.map (dK P)).Pairwise fun a b=>a.peak≠b.peak:=by
  rw [List.pairwise_map]
  exact h.ap.imp_of_mem fun {a b} ha hb hab=>wP (h.ne a ha) (h.ne b hb) hab
theorem aBV {P:List Int} {l:List (List Int)} {m:List Blob} (h:Apart l) (hp:m.Perm (l.map (dK P))) (hm:m.Pairwise leB):m.Pairwise ltB :=
  (hm.and ((hp.pairwise_iff fun {a b} hab e=>hab e.symm).2 h.peaks)).imp fun {a b} h=>by
    have:=h.1; have:=h.2; unfold leB ltB at *; omega
theorem o9 {P:List Int} {l:List (List Int)} {m:List Blob} (h:Apart l) (hp:m.Perm (l.map (dK P))) (hm:m.Pairwise leB):m=dG P l :=
  uP (lt:=ltB) (fun a b h1 h2=>by unfold ltB at h1 h2; omega) (hp.trans fA.symm) (aBV h hp hm) (aBV h fA vZ)
theorem nV {P:List Int} {W H:Nat} {least:Int} {bs:List Bool} (hleast:1≤least) (hn:bs.length=W*H) (levels:List Int):Apart (eX P W H least levels bs) :=
  ⟨fun x hx=>((pI hleast hn levels).1 x hx).ne,(pI hleast hn levels).2⟩
theorem mI {P:List Int} {W H:Nat} {least:Int} {px:List Int} (hleast:1≤least) (levels:List Int) (h:SetOK W H px):Apart (bA P W H least levels px) :=
  ⟨fun x hx=>((bn hleast levels px h).1 x hx).1.ne,(bn hleast levels px h).2.1⟩
theorem zl {P:List Int} {d:Int} {l:List (List Int)} (hl:∀ s ∈ l,∀ x ∈ s,0≤x∧x<(P.length:Int)) {b:Blob} (hb:b ∈ dG (shP P d) l) :
    ∃ a ∈ dG P l,b.px=a.px∧b.peak=a.peak∧b.sum=a.sum+d*(a.px.length:Int):=by
  obtain ⟨s,hs,rfl⟩:=List.mem_map.1 (fA.mem_iff.1 hb)
  exact ⟨dK P s,fA.mem_iff.2 (List.mem_map.2 ⟨s,hs,rfl⟩),rfl,aCB (hl s hs),aAr (hl s hs)⟩
theorem aAI {P:List Int} {l:List (List Int)}:(dG P l).length=l.length:=by rw [fA.length_eq,List.length_map]
theorem lH {n:Nat}:∀ {l:List (List Int)},Apart l→(∀ s ∈ l,∀ x ∈ s,0≤x∧x<(n:Int))→l.length≤n:=fun {l} h hl=>by
  have h1:(l.map fU).Nodup:=by
    rw [List.nodup_iff_pairwise_ne,List.pairwise_map]
    exact h.fst
  have h2:=jZ (m:=(List.range n).map fun i:Nat=>(i:Int)) h1 fun x hx=>by
    obtain ⟨s,hs,rfl⟩:=List.mem_map.1 hx
    have:=hl s hs _ (sO (h.ne s hs))
    exact List.mem_map.2 ⟨(fU s).toNat,List.mem_range.2 (by omega),by omega⟩
  simpa using h2
end Det

/- What the statements on parts ask of the parts of a set, in plain Lean. -/
namespace Det
def okL (n:Nat) (l:List Int):Prop:=∀ j,j<l.length→(0≤l.getD j 0∧l.getD j 0<(n:Int))∧(0<j→l.getD (j-1) 0<l.getD j 0)
def conn (W H:Nat) (l:List Int):Prop:=okL (W*H) l∧0<l.length∧(part W H (marks (W*H) l l.length) (l.getD 0 0).toNat).2.length=l.length
def ig (of xs:List Int) (v:Int):Nat→List Int
  | 0=>of
  | k+1=>(ig of xs v k).set (xs.getD k 0).toNat v
theorem kr {of xs:List Int} {v:Int}:∀ k,(ig of xs v k).length=of.length
  | 0=>rfl
  | k+1=>by simp [ig,kr k]
def own (n:Nat) (xss:List (List Int)):Nat→List Int
  | 0=>List.replicate n (-1)
  | s+1=>ig (own n xss s) (xss.getD s []) (s:Int) (xss.getD s []).length
theorem fI {n:Nat} {xss:List (List Int)}:∀ s,(own n xss s).length=n
  | 0=>by simp [own]
  | s+1=>by simp [own,kr,fI s]
theorem ko {of xs:List Int} {v:Int} {i:Nat} (hx:∀ t ∈ xs,0≤t∧t<(of.length:Int)) (hi:i<of.length):∀ {k:Nat},k≤xs.length →
    ((i:Int) ∈ xs.take k→(ig of xs v k).getD i 0=v)∧((i:Int) ∉ xs.take k→(ig of xs v k).getD i 0=of.getD i 0)
  | 0,_=>by simp [ig]
  | k+1,hk=>by
    obtain ⟨h1,h2⟩:=ko (v:=v) hx hi (k:=k) (by omega)
    have h0:=hx _ (bL (l:=xs) (j:=k) (by omega))
    have ht:xs.take (k+1)=xs.take k++[xs.getD k 0]:=by
      rw [List.take_add_one,List.getElem?_eq_getElem (show k<xs.length by omega)]
      simp [List.getD_eq_getElem?_getD,List.getElem?_eq_getElem (show k<xs.length by omega)]
    rw [ht]
    rw [List.mem_append,List.mem_singleton]
    have hf:ig of xs v (k+1)=(ig of xs v k).set (xs.getD k 0).toNat v:=rfl
    rw [hf]
    clear hf
    have hl:=kr (of:=of) (xs:=xs) (v:=v) k
    by_cases e:i=(xs.getD k 0).toNat
    · have:((ig of xs v k).set (xs.getD k 0).toNat v).getD i 0=v:=by
        rw [← e]; simp only [List.getD_eq_getElem?_getD,List.getElem?_set]
        simp [hl,hi]
      exact ⟨fun _=>this,fun h=>absurd (show (i:Int) ∈ xs.take k∨(i:Int)=xs.getD k 0 from .inr (by omega)) h⟩
    · have e2:((ig of xs v k).set (xs.getD k 0).toNat v).getD i 0=(ig of xs v k).getD i 0:=by
        rw [List.getD_eq_getElem?_getD,List.getElem?_set_ne (fun g=>e g.symm),List.getD_eq_getElem?_getD]
      rw [e2]
      refine ⟨?_,fun h=>h2 (fun g=>h (.inl g))⟩
      rintro (h | h)
      · exact h1 h
      · exfalso; omega
theorem qK {n:Nat} {xss:List (List Int)} {i:Nat} (hr:∀ x ∈ xss,∀ t ∈ x,0≤t∧t<(n:Int)) (hi:i<n):∀ {s:Nat},s≤xss.length→(∀ q,q<s→(i:Int) ∉ xss.getD q [])→(own n xss s).getD i 0=-1
  | 0,_,_=>by simp [own,List.getD_eq_getElem?_getD,hi]
  | s+1,hs,h=>by
    have hm:xss.getD s [] ∈ xss:=by
      rw [List.getD_eq_getElem?_getD,List.getElem?_eq_getElem (by omega)]; exact List.getElem_mem _
    have:=(ko (of:=own n xss s) (v:=(s:Int)) (i:=i) (by rw [fI]; exact hr _ hm) (by rw [fI]; exact hi) (Nat.le_refl _)).2 (by rw [List.take_length]; exact h s (by omega))
    simp only [own]
    rw [this]
    exact qK hr hi (by omega) (fun q hq=>h q (by omega))
theorem qb {xss:List (List Int)} (hp:xss.Pairwise (fun a b=>∀ t ∈ a,t ∉ b)) {p q:Nat} (hpq:p<q) (hq:q<xss.length) {t:Int} (h:t ∈ xss.getD p []):t ∉ xss.getD q []:=by
  have:=List.pairwise_iff_getElem.1 hp p q (by omega) hq hpq
  simp only [List.getD_eq_getElem?_getD,List.getElem?_eq_getElem hq,List.getElem?_eq_getElem (show p<xss.length by omega)] at h ⊢
  exact this t h
theorem uq {n:Nat} {xss:List (List Int)} {i q:Nat} (hr:∀ x ∈ xss,∀ t ∈ x,0≤t∧t<(n:Int)) (hp:xss.Pairwise (fun a b=>∀ t ∈ a,t ∉ b)) (hi:(i:Int) ∈ xss.getD q []):∀ {s:Nat},s≤xss.length→q<s→(own n xss s).getD i 0=(q:Int)
  | 0,_,h=>absurd h (Nat.not_lt_zero _)
  | s+1,hs,h=>by
    have mem:∀ s,s<xss.length→xss.getD s [] ∈ xss:=fun s hs=>by
      rw [List.getD_eq_getElem?_getD,List.getElem?_eq_getElem hs]; exact List.getElem_mem _
    have hin:i<n:=by have:=hr _ (mem q (by omega)) _ hi; omega
    have hf:=ko (of:=own n xss s) (v:=(s:Int)) (i:=i) (by rw [fI]; exact hr _ (mem s (by omega))) (by rw [fI]; exact hin) (Nat.le_refl _)
    rw [List.take_length] at hf
    simp only [own]
    rcases Nat.lt_or_ge q s with h1 | h1
    · rw [hf.2 (qb hp h1 (by omega) hi)]
      exact uq hr hp hi (by omega) h1
    · obtain rfl:q=s:=by omega
      exact hf.1 hi
theorem aBA {n:Nat} {xss:List (List Int)} (hr:∀ x ∈ xss,∀ t ∈ x,0≤t∧t<(n:Int)) (hp:xss.Pairwise (fun a b=>∀ t ∈ a,t ∉ b)) {s k:Nat} (hs:s<xss.length) (hk:k<(xss.getD s []).length) (ho:okL n (xss.getD s [])) :
    (ig (own n xss s) (xss.getD s []) (s:Int) k).getD ((xss.getD s []).getD k 0).toNat 0=-1:=by
  have mem:∀ s,s<xss.length→xss.getD s [] ∈ xss:=fun s hs=>by
    rw [List.getD_eq_getElem?_getD,List.getElem?_eq_getElem hs]; exact List.getElem_mem _
  have hx:=hr _ (mem s hs) _ (bL hk)
  have hlt:((xss.getD s []).getD k 0).toNat<n:=by omega
  have hmem:((((xss.getD s []).getD k 0).toNat:Nat):Int) ∈ xss.getD s []:=by
    rw [Int.toNat_of_nonneg hx.1]; exact bL hk
  have hf:=(ko (of:=own n xss s) (v:=(s:Int)) (i:=((xss.getD s []).getD k 0).toNat) (by rw [fI]; exact hr _ (mem s hs)) (by rw [fI]; exact hlt) (Nat.le_of_lt hk)).2 (by
    intro h
    obtain ⟨j,hj,he⟩:=List.mem_iff_getElem.1 h
    rw [List.length_take] at hj
    rw [List.getElem_take] at he
    have e:(xss.getD s []).getD j 0=(xss.getD s []).getD k 0:=by
      rw [List.getD_eq_getElem?_getD,List.getElem?_eq_getElem (by omega)]
      simp only [Option.getD_some,he]
      omega
    have inc:∀ m,j+m<(xss.getD s []).length→0<m→(xss.getD s []).getD j 0<(xss.getD s []).getD (j+m) 0:=by
      intro m
      induction m with
      | zero=>intro _ h; omega
      | succ m ih =>
        intro h1 _
        have h2:=(ho (j+(m+1)) h1).2 (by omega)
        rcases Nat.eq_zero_or_pos m with h3 | h3
        · subst h3; exact h2
        · have:=ih (by omega) h3
          have e:j+(m+1)-1=j+m:=by omega
          rw [e] at h2
          omega
    have:=inc (k-j) (by omega) (by omega)
    rw [show j+(k-j)=k from by omega] at this
    omega)
  rw [hf]
  exact qK hr hlt (Nat.le_of_lt hs) (fun q hq h=>qb hp hq hs h hmem)
theorem aD1 {n:Nat} {l:List Int} (h:l.Pairwise (·<·)) (hr:∀ t ∈ l,0≤t∧t<(n:Int)):okL n l:=by
  intro j hj
  refine ⟨hr _ (bL hj),fun h0=>?_⟩
  have:=List.pairwise_iff_getElem.1 h (j-1) j (by omega) hj (by omega)
  simpa [List.getD_eq_getElem?_getD,List.getElem?_eq_getElem hj,List.getElem?_eq_getElem (show j-1<l.length by omega)] using this
theorem zW {n:Nat} {l:List Int} (hl:∀ t ∈ l,0≤t∧t<(n:Int)) (i:Nat):(marks n l l.length).getD i false=true↔(i:Int) ∈ l:=by
  rw [gW hl _ (Nat.le_refl _),List.take_length]
section
variable {W H:Nat} {least:Int} {bs:List Bool} {ss:List (List Int)}
theorem at_mem {q:Nat} (hq:q<ss.length):ss.getD q [] ∈ ss:=by
  rw [List.getD_eq_getElem?_getD,List.getElem?_eq_getElem hq]; exact List.getElem_mem _
end
theorem zy {k n:Nat} (h:k<n):(List.replicate k (-1:Int)++List.replicate (n-k) 0).set k (-1)=List.replicate (k+1) (-1)++List.replicate (n-(k+1)) 0:=by
  rw [List.set_append_right _ _ (by simp),List.length_replicate,Nat.sub_self,show n-k=(n-(k+1))+1 from by omega,List.replicate_succ,List.set_cons_zero,List.replicate_succ',List.append_assoc]
  rfl
def sets (W H:Nat) (zs:List Int) (bs:List Bool) (thr least:Int):List (List Int):=(bR W H least (bright zs bs thr (W*H)) (W*H)).2
theorem xX {W H:Nat} {zs:List Int} {bs:List Bool} {thr least:Int} (h:bg W H zs bs thr least=0) (hz:zs.length=W*H):eZ W H zs bs thr least=sets W H zs bs thr least:=by
  unfold eZ sets
  rw [if_pos h,hz,Int.toNat_natCast,Int.toNat_natCast]
theorem rH {W H:Int} {zs:List Int} (h:aM W H zs):∃ w h':Nat,W=(w:Int)∧H=(h':Int)∧zs.length=w*h':=by
  obtain ⟨h1,h2,h3,h4,h5,_⟩:=h
  obtain ⟨w,rfl⟩:=Int.eq_ofNat_of_zero_le (show 0≤W by omega)
  obtain ⟨k,rfl⟩:=Int.eq_ofNat_of_zero_le (show 0≤H by omega)
  exact ⟨w,k,rfl,rfl,by exact_mod_cast h5⟩
theorem rE {W H thr least:Int} {zs:List Int} {bs:List Bool} (h:bg W H zs bs thr least=0):-4294967296≤thr∧thr≤4294967296∧1≤least:=by
  unfold bg at h
  split at h
  · split at h
    · rename_i g; exact ⟨g.2.1,g.2.2.1,g.2.2.2⟩
    · cases h
  · cases h
end Det
