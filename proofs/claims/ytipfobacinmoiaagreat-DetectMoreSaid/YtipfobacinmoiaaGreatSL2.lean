/- Memory: assertions with a footprint (Asr), what is known of a world against the world at the call's start (St), and the operations that read or write. -/
import Derived.Test.YtipfobacinmoiaaGreatSL1
import Derived.Maps.AppendAt
import Derived.Laws.AppendOwn
import Derived.Laws.MakeOwn
set_option linter.unusedVariables false
set_option linter.unusedSimpArgs false
namespace Go.SL
open Go
abbrev Hp:=Nat→Option Obj
def hp (w:World):Hp:=fun b=>w.heap[b]?
structure Asr where
  fp:Nat→Prop
  holds:Hp→Prop
  loc:∀ h h':Hp,(∀ b,fp b→h' b=h b)→holds h→holds h'
def Sep (h:Hp) (n:Nat) (old:Nat→Prop):List Asr→Prop
  | []=>True
  | p::t=>(p.holds h∧(∀ b,p.fp b→b<n∧old b)∧∀ q ∈ t,∀ b,p.fp b→¬ q.fp b)∧Sep h n old t
theorem Sep.get {h:Hp} {n:Nat} {old:Nat→Prop} {p:Asr}:∀ {M:List Asr} {i:Nat},Sep h n old M→M[i]? = some p→p.holds h∧(∀ b,p.fp b→b<n∧old b)
  | [],_,_,hi=>by simp at hi
  | q::t,0,hs,hi=>by
    simp only [List.getElem?_cons_zero,Option.some.injEq] at hi
    subst hi
    exact ⟨hs.1.1,hs.1.2.1⟩
  | q::t,i+1,hs,hi=>Sep.get hs.2 (by simpa using hi)
theorem Sep.weak {h h':Hp} {n n':Nat} {old old':Nat→Prop}:∀ {M:List Asr},Sep h n old M→(∀ p ∈ M,∀ b,p.fp b→h' b=h b)→n≤n'→(∀ b,b<n→old b→old' b)→Sep h' n' old' M
  | [],_,_,_,_=>trivial
  | p::t,hs,hk,hn,ho=>⟨⟨p.loc _ _ (hk p (by simp)) hs.1.1,fun b hb=>⟨Nat.lt_of_lt_of_le (hs.1.2.1 b hb).1 hn,ho b (hs.1.2.1 b hb).1 (hs.1.2.1 b hb).2⟩,hs.1.2.2⟩,
    Sep.weak hs.2 (fun q hq=>hk q (by simp [hq])) hn ho⟩
theorem Sep.disj {h:Hp} {n:Nat} {old:Nat→Prop} {p q:Asr}:∀ {M:List Asr} {i j:Nat},Sep h n old M→M[i]? = some p→M[j]? = some q→i≠j→∀ b,p.fp b→¬ q.fp b
  | [],_,_,_,hi,_,_,_,_=>by simp at hi
  | _::t,0,0,_,_,_,hne,_,_=>absurd rfl hne
  | r::t,0,j+1,hs,hi,hj,_,b,hb=>by
    simp only [List.getElem?_cons_zero,Option.some.injEq] at hi
    subst hi
    simp only [List.getElem?_cons_succ] at hj
    exact hs.1.2.2 q (List.mem_of_getElem? hj) b hb
  | r::t,i+1,0,hs,hi,hj,_,b,hb=>by
    simp only [List.getElem?_cons_zero,Option.some.injEq] at hj
    subst hj
    simp only [List.getElem?_cons_succ] at hi
    exact fun hq=>hs.1.2.2 p (List.mem_of_getElem? hi) b hq hb
  | r::t,i+1,j+1,hs,hi,hj,hne,b,hb=>Sep.disj hs.2 (by simpa using hi) (by simpa using hj) (by omega) b hb
theorem Sep.set {h h':Hp} {n n':Nat} {old:Nat→Prop} {p q:Asr}:∀ {M:List Asr} {i:Nat},Sep h n old M→M[i]? = some p→(∀ b,b<n→¬ p.fp b→h' b=h b)→n≤n'→q.holds h' →
    (∀ b,q.fp b→(p.fp b∨n≤b)∧b<n'∧old b)→Sep h' n' old (M.set i q)
  | [],_,_,hi,_,_,_,_=>by simp at hi
  | r::t,0,hs,hi,hk,hn,hq,hf=>by
    simp only [List.getElem?_cons_zero,Option.some.injEq] at hi
    subst hi
    refine ⟨⟨hq,fun b hb=>(hf b hb).2,fun s hs' b hb hsb=>?_⟩,?_⟩
    · obtain ⟨k,hk'⟩:=List.getElem?_of_mem hs'
      have hlt:=((Sep.get hs.2 hk').2 b hsb).1
      rcases (hf b hb).1 with h1 | h1
      · exact hs.1.2.2 s hs' b h1 hsb
      · omega
    · refine Sep.weak hs.2 (fun s hs' b hb=>hk b ?_ (fun hp=>hs.1.2.2 s hs' b hp hb)) hn (fun _ _ h=>h)
      obtain ⟨k,hk'⟩:=List.getElem?_of_mem hs'
      exact ((Sep.get hs.2 hk').2 b hb).1
  | r::t,i+1,hs,hi,hk,hn,hq,hf=>by
    simp only [List.getElem?_cons_succ] at hi
    have hpr:∀ b,r.fp b→¬ p.fp b:=fun b hb=>hs.1.2.2 p (List.mem_of_getElem? hi) b hb
    refine ⟨⟨r.loc _ _ (fun b hb=>hk b (hs.1.2.1 b hb).1 (hpr b hb)) hs.1.1,fun b hb=>⟨Nat.lt_of_lt_of_le (hs.1.2.1 b hb).1 hn,(hs.1.2.1 b hb).2⟩,fun s hs' b hb hsb=>?_⟩,Sep.set hs.2 hi hk hn hq hf⟩
    rcases List.mem_or_eq_of_mem_set hs' with h1 | h1
    · exact hs.1.2.2 s h1 b hb hsb
    · subst h1
      rcases (hf b hsb).1 with h2 | h2
      · exact hpr b hb h2
      · have:=(hs.1.2.1 b hb).1; omega
theorem Sep.sub {h:Hp} {n:Nat} {old:Nat→Prop} {M M':List Asr} (hs:Sep h n old M) (hl:M'.Sublist M):Sep h n old M':=by
  induction hl with
  | slnil=>trivial
  | cons a _ ih=>exact ih hs.2
  | cons_cons a hl ih=>exact ⟨⟨hs.1.1,hs.1.2.1,fun q hq=>hs.1.2.2 q (hl.subset hq)⟩,ih hs.2⟩
theorem Sep.app {h:Hp} {n:Nat} {old:Nat→Prop}:∀ {N M:List Asr},Sep h n old N→Sep h n old M→(∀ p ∈ N,∀ q ∈ M,∀ b,p.fp b→¬ q.fp b)→Sep h n old (N++M)
  | [],_,_,hM,_=>hM
  | p::t,M,hN,hM,hd=>⟨⟨hN.1.1,hN.1.2.1,fun q hq=>by
      rcases List.mem_append.1 hq with h1 | h1
      · exact hN.1.2.2 q h1
      · exact hd p (by simp) q h1⟩,Sep.app hN.2 hM (fun p' hp'=>hd p' (by simp [hp']))⟩
structure St (w0 w:World) (X:Nat→Prop) (B M:List Asr):Prop where
  os:w.os=w0.os
  tape:w.tape=w0.tape
  output:w.output=w0.output
  size:w0.heap.size≤w.heap.size
  old:∀ b,b<w0.heap.size→¬ X b→w.heap[b]? = w0.heap[b]?
  sep:Sep (hp w) w.heap.size (fun b=>X b∨w0.heap.size≤b) M
  bor:∀ p ∈ B,p.holds (hp w0)∧∀ b,p.fp b→b<w0.heap.size∧¬ X b
def noX:Nat→Prop:=fun _=>False
section
variable {w0 w w':World} {X X':Nat→Prop} {B M N:List Asr} {p q:Asr} {i j:Nat}
theorem St.at_ (h:St w0 w X B M) (hi:M[i]? = some p):p.holds (hp w):=(h.sep.get hi).1
theorem St.bat (h:St w0 w X B M) (hi:B[i]? = some p):p.holds (hp w):=by
  obtain ⟨h1,h2⟩:=h.bor p (List.mem_of_getElem? hi)
  exact p.loc _ _ (fun b hb=>h.old b (h2 b hb).1 (h2 b hb).2) h1
theorem St.refl (w:World):St w w noX [] []:=⟨rfl,rfl,rfl,Nat.le_refl _,fun _ _ _=>rfl,trivial,by simp⟩
theorem St.borrow (hB:∀ p ∈ B,p.holds (hp w)∧∀ b,p.fp b→b<w.heap.size):St w w noX B [] :=
  ⟨rfl,rfl,rfl,Nat.le_refl _,fun _ _ _=>rfl,trivial,fun p hp=>⟨(hB p hp).1,fun b hb=>⟨(hB p hp).2 b hb,fun h=>h⟩⟩⟩
theorem St.drew (h:St w0 w X B M):St w0 w.drew X B M:=⟨h.os,h.tape,h.output,h.size,h.old,h.sep,h.bor⟩
theorem St.sub (h:St w0 w X B M) (hl:N.Sublist M):St w0 w X B N:=⟨h.os,h.tape,h.output,h.size,h.old,h.sep.sub hl,h.bor⟩
theorem St.noB (h:St w0 w X B M):St w0 w X [] M:=⟨h.os,h.tape,h.output,h.size,h.old,h.sep,by simp⟩
theorem St.eqM (h:St w0 w X B M) (e:M=N):St w0 w X B N:=e▸h
theorem St.write (h:St w0 w X B M) (hi:M[i]? = some p) (hos:w'.os=w.os) (htape:w'.tape=w.tape) (hout:w'.output=w.output) (hsz:w.heap.size≤w'.heap.size)
    (hk:∀ b,b<w.heap.size→¬ p.fp b→w'.heap[b]? = w.heap[b]?) (hq:q.holds (hp w')) (hf:∀ b,q.fp b→(p.fp b∨w.heap.size≤b)∧b<w'.heap.size):St w0 w' X B (M.set i q):=by
  refine ⟨hos.trans h.os,htape.trans h.tape,hout.trans h.output,Nat.le_trans h.size hsz,fun b hb hx=>?_,?_,h.bor⟩
  · refine (hk b (Nat.lt_of_lt_of_le hb h.size) (fun hp=>?_)).trans (h.old b hb hx)
    rcases ((h.sep.get hi).2 b hp).2 with h1 | h1
    · exact hx h1
    · omega
  · refine Sep.set h.sep hi (fun b hb hp=>hk b hb hp) hsz hq (fun b hb=>⟨(hf b hb).1,(hf b hb).2,?_⟩)
    rcases (hf b hb).1 with h1 | h1
    · exact ((h.sep.get hi).2 b h1).2
    · exact .inr (Nat.le_trans h.size h1)
theorem St.push (h:St w0 w X B M) (hos:w'.os=w.os) (htape:w'.tape=w.tape) (hout:w'.output=w.output) (hsz:w.heap.size≤w'.heap.size)
    (hk:∀ b,b<w.heap.size→w'.heap[b]? = w.heap[b]?) (hq:q.holds (hp w')) (hf:∀ b,q.fp b→w.heap.size≤b∧b<w'.heap.size):St w0 w' X B (q::M):=by
  refine ⟨hos.trans h.os,htape.trans h.tape,hout.trans h.output,Nat.le_trans h.size hsz,fun b hb hx=>(hk b (Nat.lt_of_lt_of_le hb h.size)).trans (h.old b hb hx),?_,h.bor⟩
  refine ⟨⟨hq,fun b hb=>⟨(hf b hb).2,.inr (Nat.le_trans h.size (hf b hb).1)⟩,fun s hs b hb hsb=>?_⟩,?_⟩
  · obtain ⟨k,hk'⟩:=List.getElem?_of_mem hs
    have:=((h.sep.get hk').2 b hsb).1
    have:=(hf b hb).1
    omega
  · refine Sep.weak h.sep (fun s hs b hb=>hk b ?_) hsz (fun _ _ h=>h)
    obtain ⟨k,hk'⟩:=List.getElem?_of_mem hs
    exact ((h.sep.get hk').2 b hb).1
theorem St.pushE (h:St w0 w X B M) (hq:q.holds (hp w)) (hf:∀ b,¬ q.fp b):St w0 w X B (q::M) :=
  h.push rfl rfl rfl (Nat.le_refl _) (fun _ _=>rfl) hq (fun b hb=>absurd hb (hf b))
theorem St.conv (h:St w0 w X B M) (hi:M[i]? = some p) (hq:p.holds (hp w)→q.holds (hp w)) (hf:∀ b,q.fp b→p.fp b):St w0 w X B (M.set i q) :=
  h.write hi rfl rfl rfl (Nat.le_refl _) (fun _ _ _=>rfl) (hq (h.at_ hi)) (fun b hb=>⟨.inl (hf b hb),((h.sep.get hi).2 b (hf b hb)).1⟩)
theorem St.call (h:St w0 w X B M) (hc:St w w' noX [] N):St w0 w' X B (N++M):=by
  refine ⟨hc.os.trans h.os,hc.tape.trans h.tape,hc.output.trans h.output,Nat.le_trans h.size hc.size,fun b hb hx=>(hc.old b (Nat.lt_of_lt_of_le hb h.size) (fun h=>h)).trans (h.old b hb hx),?_,h.bor⟩
  refine Sep.app ?_ ?_ ?_
  · refine Sep.weak hc.sep (fun _ _ _ _=>rfl) (Nat.le_refl _) (fun b _ hb=>?_)
    rcases hb with h1 | h1
    · exact h1.elim
    · exact .inr (Nat.le_trans h.size h1)
  · refine Sep.weak h.sep (fun s hs b hb=>?_) hc.size (fun _ _ h=>h)
    obtain ⟨k,hk'⟩:=List.getElem?_of_mem hs
    exact hc.old b ((h.sep.get hk').2 b hb).1 (fun h=>h)
  · intro p hp q hq b hpb hqb
    obtain ⟨k,hk⟩:=List.getElem?_of_mem hp
    obtain ⟨k',hk'⟩:=List.getElem?_of_mem hq
    have h1:=((hc.sep.get hk).2 b hpb).2
    have h2:=((h.sep.get hk').2 b hqb).1
    rcases h1 with h1 | h1
    · exact h1
    · omega
theorem St.callX (h:St w0 w X B M) (hc:St w w' X' [] N) (hX:∀ b,X' b→∃ p ∈ M,p.fp b) {M':List Asr} (hM:M'.Sublist M) (hM':∀ p ∈ M',∀ b,p.fp b→¬ X' b):St w0 w' X B (N++M'):=by
  have hXX:∀ b,X' b→b<w.heap.size∧(X b∨w0.heap.size≤b):=fun b hb=>by
    obtain ⟨p,hp,hpb⟩:=hX b hb
    obtain ⟨k,hk⟩:=List.getElem?_of_mem hp
    exact (h.sep.get hk).2 b hpb
  have hs:=h.sep.sub hM
  refine ⟨hc.os.trans h.os,hc.tape.trans h.tape,hc.output.trans h.output,Nat.le_trans h.size hc.size,fun b hb hx=>(hc.old b (Nat.lt_of_lt_of_le hb h.size) (fun hb'=>?_)).trans (h.old b hb hx),?_,h.bor⟩
  · rcases (hXX b hb').2 with h1 | h1
    · exact hx h1
    · omega
  refine Sep.app ?_ ?_ ?_
  · refine Sep.weak hc.sep (fun _ _ _ _=>rfl) (Nat.le_refl _) (fun b _ hb=>?_)
    rcases hb with h1 | h1
    · exact (hXX b h1).2
    · exact .inr (Nat.le_trans h.size h1)
  · refine Sep.weak hs (fun s hs' b hb=>?_) hc.size (fun _ _ h=>h)
    obtain ⟨k,hk'⟩:=List.getElem?_of_mem hs'
    exact hc.old b ((hs.get hk').2 b hb).1 (hM' s hs' b hb)
  · intro p hp q hq b hpb hqb
    obtain ⟨k,hk⟩:=List.getElem?_of_mem hp
    obtain ⟨k',hk'⟩:=List.getElem?_of_mem hq
    have h1:=((hc.sep.get hk).2 b hpb).2
    have h2:=((hs.get hk').2 b hqb).1
    rcases h1 with h1 | h1
    · exact hM' q hq b hqb h1
    · omega
end
def pt (b:Nat) (o:Obj):Asr:=⟨fun k=>k=b,fun h=>h b=some o,fun h h' hk hh=>by rw [hk b rfl]; exact hh⟩
theorem St.ptAt {w0 w:World} {X:Nat→Prop} {B M:List Asr} {i b:Nat} {o:Obj} (h:St w0 w X B M) (hi:M[i]? = some (pt b o)):w.heap[b]? = some o:=h.at_ hi
theorem St.bptAt {w0 w:World} {X:Nat→Prop} {B M:List Asr} {i b:Nat} {o:Obj} (h:St w0 w X B M) (hi:B[i]? = some (SL.pt b o)):w.heap[b]? = some o:=h.bat hi
def slOK (h:Hp) (e:TypeId) (sz:Nat) (v:Value) (n:Nat) (xs:List Value):Prop :=
  xs.length=n*sz ∧
  ((v=.slice none 0 0∧n=0) ∨
   ∃ g cap cur,v=.slice (some ⟨g,0,none⟩) n cap∧h g=some (.cells cur e (0,0))∧n≤cap∧cap≤maxLen∧cur.size=cap*sz∧cur.toList.take (n*sz)=xs)
theorem slOK_iff {w:World} {e:TypeId} {sz:Nat} {v:Value} {n:Nat} {xs:List Value}:slOK (hp w) e sz v n xs↔w.ownsRow 0 e sz v n xs:=by
  unfold slOK World.ownsRow hp
  simp
def sl (e:TypeId) (sz:Nat) (v:Value) (n:Nat) (xs:List Value):Asr :=
  ⟨fun k=>v.ownBlock=some k,fun h=>slOK h e sz v n xs,fun h h' hk hh=>by
    refine ⟨hh.1,?_⟩
    rcases hh.2 with h1 | ⟨g,cap,cur,rfl,hg,rest⟩
    · exact .inl h1
    · exact .inr ⟨g,cap,cur,rfl,by rw [hk g rfl]; exact hg,rest⟩⟩
def rd (sz:Nat) (A:Option Addr) (n:Nat) (xs:List Value):Asr :=
  ⟨fun k=>∃ a,A=some a∧k=a.block,
   fun h=>xs.length=n*sz∧n≤maxLen∧(0<n→∃ a cur e z,A=some a∧a.spot=none∧h a.block=some (.cells cur e z)∧∀ j u,xs[j]? = some u→cur[a.off+j]? = some u),
   fun h h' hk hh=>⟨hh.1,hh.2.1,fun hn=>by
    obtain ⟨a,cur,e,z,rfl,hs,hb,hc⟩:=hh.2.2 hn
    exact ⟨a,cur,e,z,rfl,hs,by rw [hk a.block ⟨a,rfl,rfl⟩]; exact hb,hc⟩⟩⟩
end Go.SL
