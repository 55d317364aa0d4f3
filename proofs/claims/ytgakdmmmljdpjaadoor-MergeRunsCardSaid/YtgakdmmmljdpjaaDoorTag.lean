/- Part of a proof: laws and walks. -/
import Derived.Test.YtgakdmmmljdpjaaDoorTaf
set_option linter.unusedVariables false
set_option linter.unusedSimpArgs false
namespace Det
def fieldOK (W H:Int) (zs:List Int):Prop :=
  1≤W∧W≤100∧1≤H∧H≤100∧(zs.length:Int)=W*H∧∀ j,j<zs.length→-4294967296≤zs.getD j 0∧zs.getD j 0≤4294967296
def okNb (W H x y:Nat) (u v:Int):Bool :=
  !((((decide (u<(0:Int))||decide (u≥(W:Int)))||decide (v<(0:Int)))||decide (v≥(H:Int)))||(decide (u=(x:Int))&&decide (v=(y:Int))))
def nbIn (W H x y:Nat) (v:Int):Nat→List Int
  | 0=>[]
  | l+1=>nbIn W H x y v l++(if okNb W H x y ((x:Int)-1+(l:Int)) v then [v*(W:Int)+((x:Int)-1+(l:Int))] else [])
def nbOut (W H x y:Nat):Nat→List Int
  | 0=>[]
  | k+1=>nbOut W H x y k++nbIn W H x y ((y:Int)-1+(k:Int)) 3
def nb (W H i:Nat):List Int:=nbOut W H (i % W) (i/W) 3
def marks (n:Nat) (l:List Int):Nat→List Bool
  | 0=>List.replicate n false
  | k+1=>(marks n l k).set (Int.toNat (l.getD k 0)) true
def sameF (a b:Int) (zs:List Int) (c d:Int) (ys:List Int):Bool:=decide (a=c∧b=d∧zs=ys)
theorem all_snoc {p:Nat→Prop} {k:Nat} (h:∀ j,j<k→p j) (hk:p k):∀ j,j<k+1→p j:=fun j hj=>by
  rcases Nat.lt_or_ge j k with h1 | h1
  · exact h j h1
  · have:j=k:=by omega
    subst this; exact hk
end Det
namespace Det
theorem getD_mem {l:List Int} {j:Nat} (h:j<l.length):l.getD j 0 ∈ l:=by
  rw [List.getD_eq_getElem?_getD,List.getElem?_eq_getElem h]
  exact List.getElem_mem h
def visit1 (s:List Bool × List Int) (i:Int):List Bool × List Int :=
  if s.1.getD i.toNat false=true then (s.1.set i.toNat false,s.2++[i]) else s
def visitN (s:List Bool × List Int) (l:List Int):Nat→List Bool × List Int
  | 0=>s
  | j+1=>visit1 (visitN s l j) (l.getD j 0)
def bfs (W H:Nat) (ins:List Bool) (first:Nat):Nat→List Bool × List Int
  | 0=>(ins.set first false,[(first:Int)])
  | k+1=>if k<(bfs W H ins first k).2.length then
      visitN (bfs W H ins first k) (nb W H ((bfs W H ins first k).2.getD k 0).toNat) (nb W H ((bfs W H ins first k).2.getD k 0).toNat).length
    else bfs W H ins first k
def Inv (n:Nat) (s:List Bool × List Int):Prop:=s.1.length=n∧s.2.length+s.1.count true≤n∧∀ t ∈ s.2,0≤t∧t<(n:Int)
theorem count_set {l:List Bool}:∀ {i:Nat},l.getD i false=true→(l.set i false).count true+1=l.count true:=by
  induction l with
  | nil=>intro i h; simp at h
  | cons b t ih =>
    intro i h
    cases i with
    | zero=>simp at h; subst h; simp
    | succ i =>
      simp only [List.getD_cons_succ] at h
      have:=ih h
      simp only [List.set_cons_succ,List.count_cons]
      omega
theorem Inv.visit1 {n:Nat} {s:List Bool × List Int} {i:Int} (h:Inv n s) (hi:0≤i∧i<(n:Int)):Inv n (visit1 s i):=by
  unfold Det.visit1
  split
  · rename_i hc
    refine ⟨by simpa using h.1,?_,?_⟩
    · have:=count_set hc
      have:=h.2.1
      simp only [List.length_append,List.length_singleton]
      omega
    · intro t ht
      rcases List.mem_append.1 ht with h1 | h1
      · exact h.2.2 t h1
      · simp only [List.mem_singleton] at h1; subst h1; exact hi
  · exact h
theorem Inv.visitN {n:Nat} {s:List Bool × List Int} {l:List Int} (h:Inv n s) (hl:∀ t ∈ l,0≤t∧t<(n:Int)):∀ j,j≤l.length→Inv n (visitN s l j)
  | 0,_=>h
  | j+1,hj=>Inv.visit1 (Inv.visitN h hl j (by omega)) (hl _ (getD_mem (by omega)))
theorem Inv.start {n first:Nat} {ins:List Bool} (hn:ins.length=n) (hf:first<n):Inv n (ins.set first false,[(first:Int)]):=by
  refine ⟨by simpa using hn,?_,?_⟩
  · have h1:(ins.set first false).count true<n:=by
      have hle:(ins.set first false).count true≤(ins.set first false).length:=List.count_le_length
      rcases Nat.lt_or_ge ((ins.set first false).count true) n with h | h
      · exact h
      · have he:(ins.set first false).count true=(ins.set first false).length:=by simp only [List.length_set] at hle ⊢; omega
        have hall:=List.count_eq_length.1 he
        have hm:false ∈ ins.set first false:=List.mem_iff_getElem.2 ⟨first,by simp; omega,by simp⟩
        have:=hall false hm
        cases this
    simp only [List.length_singleton]; omega
  · intro t ht
    simp only [List.mem_singleton] at ht
    subst ht
    omega
theorem bfs_stop {W H first k:Nat} {ins:List Bool} (hk:(bfs W H ins first k).2.length≤k):∀ j,bfs W H ins first (k+j)=bfs W H ins first k
  | 0=>rfl
  | j+1=>by
    have ih:=bfs_stop hk j
    show bfs W H ins first ((k+j)+1)=_
    simp only [bfs,ih]
    rw [if_neg (by omega)]
def asc (bs:List Bool):Nat→List Int
  | 0=>[]
  | k+1=>asc bs k++(if bs.getD k false=true then [(k:Int)] else [])
def part (W H:Nat) (ins:List Bool) (first:Nat):List Bool × List Int :=
  ((bfs W H ins first (W*H)).1,asc (marks (W*H) (bfs W H ins first (W*H)).2 (bfs W H ins first (W*H)).2.length) (W*H))
theorem part_of {W H first:Nat} {ins0 ins:List Bool} {todo:List Int} (h:(ins,todo)=bfs W H ins0 first todo.length) (hle:todo.length≤W*H) :
    part W H ins0 first=(ins,asc (marks (W*H) todo todo.length) (W*H)):=by
  have hs:bfs W H ins0 first (W*H)=(ins,todo):=by
    have:=bfs_stop (W:=W) (H:=H) (first:=first) (ins:=ins0) (k:=todo.length) (by rw [← h]; exact Nat.le_refl _) (W*H-todo.length)
    rw [show todo.length+(W*H-todo.length)=W*H from by omega] at this
    rw [this,h]
  unfold part
  rw [hs]
def partsF (W H:Nat) (least:Int) (ins:List Bool):Nat→List Bool × List (List Int)
  | 0=>(ins,[])
  | k+1=>if (partsF W H least ins k).1.getD k false=true then
      ((part W H (partsF W H least ins k).1 k).1,(partsF W H least ins k).2++(if least≤((part W H (partsF W H least ins k).1 k).2.length:Int) then [(part W H (partsF W H least ins k).1 k).2] else []))
    else partsF W H least ins k
def bright (zs:List Int) (bs:List Bool) (thr:Int):Nat→List Bool
  | 0=>[]
  | k+1=>bright zs bs thr k++[!(bs.getD k false)&&decide (zs.getD k 0≥thr)]
def maxL (l:List Int):Int:=l.foldl (fun a b=>if a<b then b else a) (l.getD 0 0)
def minL (l:List Int):Int:=l.foldl (fun a b=>if b<a then b else a) (l.getD 0 0)
open Classical in
noncomputable def partsE (W H:Int) (zs:List Int) (bs:List Bool) (thr least:Int):Int :=
  if fieldOK W H zs then (if bs.length=zs.length∧-4294967296≤thr∧thr≤4294967296∧1≤least then 0 else 2) else 8
noncomputable def partsR (W H:Int) (zs:List Int) (bs:List Bool) (thr least:Int):List (List Int) :=
  if partsE W H zs bs thr least=0 then (partsF W.toNat H.toNat least (bright zs bs thr zs.length) zs.length).2 else []
end Det
namespace Det
end Det
namespace Det
def Inv2 (s:List Bool × List Int):Prop:=s.2.Nodup∧∀ t ∈ s.2,0≤t∧s.1.getD t.toNat false=false
theorem Inv2.start {first:Nat} {ins:List Bool}:Inv2 (ins.set first false,[(first:Int)]):=by
  refine ⟨by simp,fun t ht=>?_⟩
  simp only [List.mem_singleton] at ht
  subst ht
  refine ⟨by omega,?_⟩
  simp only [List.getD_eq_getElem?_getD,Int.toNat_natCast,List.getElem?_set]
  by_cases h:first<ins.length <;> simp [h]
theorem Inv2.take {q:Nat} {ins:List Bool} {l:List Int} (h:Inv2 (ins,l)) (hc:ins.getD q false=true):Inv2 (ins.set q false,l++[(q:Int)]):=by
  have hq:(q:Int) ∉ l:=fun hm=>by
    have:=(h.2 _ hm).2
    rw [Int.toNat_natCast,hc] at this
    cases this
  refine ⟨?_,fun t ht=>?_⟩
  · rw [List.nodup_append]
    exact ⟨h.1,by simp,fun x hx y hy e=>by simp only [List.mem_singleton] at hy; subst hy; exact hq (e▸hx)⟩
  · rcases List.mem_append.1 ht with ht | ht
    · obtain ⟨h0,h1⟩:=h.2 t ht
      refine ⟨h0,?_⟩
      by_cases e:q=t.toNat
      · rw [e,h1] at hc; cases hc
      · simp only [List.getD_eq_getElem?_getD,List.getElem?_set,if_neg e]
        simpa [List.getD_eq_getElem?_getD] using h1
    · simp only [List.mem_singleton] at ht
      subst ht
      refine ⟨by omega,?_⟩
      simp only [List.getD_eq_getElem?_getD,Int.toNat_natCast,List.getElem?_set]
      by_cases h:q<ins.length <;> simp [h]
theorem Inv.take {n q:Nat} {ins:List Bool} {l:List Int} (h:Inv n (ins,l)) (hq:q<n) (hc:ins.getD q false=true):Inv n (ins.set q false,l++[(q:Int)]):=by
  have:=Inv.visit1 h (i:=(q:Int)) (by omega)
  unfold Det.visit1 at this
  rwa [if_pos (show (ins,l).1.getD ((q:Int)).toNat false=true from hc)] at this
def srt (l:List Int):List Int:=l.mergeSort (fun x y=>decide (x≤y))
end Det
namespace Det
def partsK (W H:Nat) (least:Int) (bs:List Bool) (ks:List Int):Nat→List Bool × List (List Int)
  | 0=>(bs,[])
  | j+1=>if (partsK W H least bs ks j).1.getD (ks.getD j 0).toNat false=true then
      ((part W H (partsK W H least bs ks j).1 (ks.getD j 0).toNat).1,(partsK W H least bs ks j).2++(if least≤((part W H (partsK W H least bs ks j).1 (ks.getD j 0).toNat).2.length:Int) then [(part W H (partsK W H least bs ks j).1 (ks.getD j 0).toNat).2] else []))
    else partsK W H least bs ks j
section
variable {W H j q:Nat} {least:Int} {bs ins:List Bool} {xss:List (List Int)} {ks:List Int}
end
def Sub (a b:List Bool):Prop:=∀ i,a.getD i false=true→b.getD i false=true
theorem Sub.refl (a:List Bool):Sub a a:=fun _ h=>h
theorem Sub.trans {a b c:List Bool} (h:Sub a b) (h':Sub b c):Sub a c:=fun i hi=>h' i (h i hi)
theorem Sub.setF (a:List Bool) (q:Nat):Sub (a.set q false) a:=fun i hi=>by
  simp only [List.getD_eq_getElem?_getD,List.getElem?_set] at hi ⊢
  split at hi
  · split at hi <;> simp at hi
  · exact hi
theorem Sub.visit1 (s:List Bool × List Int) (i:Int):Sub (visit1 s i).1 s.1:=by
  unfold Det.visit1
  split
  · exact Sub.setF _ _
  · exact Sub.refl _
theorem Sub.visitN (s:List Bool × List Int) (l:List Int):∀ j,Sub (visitN s l j).1 s.1
  | 0=>Sub.refl _
  | j+1=>(Sub.visit1 _ _).trans (Sub.visitN s l j)
theorem Sub.bfs (W H:Nat) (ins:List Bool) (first:Nat):∀ k,Sub (bfs W H ins first k).1 ins
  | 0=>Sub.setF _ _
  | k+1=>by
    simp only [Det.bfs]
    split
    · exact (Sub.visitN _ _ _).trans (Sub.bfs W H ins first k)
    · exact Sub.bfs W H ins first k
theorem Sub.part (W H:Nat) (ins:List Bool) (first:Nat):Sub (part W H ins first).1 ins:=Sub.bfs _ _ _ _ _
theorem Sub.partsF (W H:Nat) (least:Int) (ins:List Bool):∀ k,Sub (partsF W H least ins k).1 ins
  | 0=>Sub.refl _
  | k+1=>by
    simp only [Det.partsF]
    split
    · exact (Sub.part _ _ _ _).trans (Sub.partsF W H least ins k)
    · exact Sub.partsF W H least ins k
end Det
namespace Det
end Det

namespace Go.SL
open Go
def cmpI (x y:Int):Int:=if x<y then -1 else if x>y then 1 else 0
def orM:List Int→Int
  | []=>0
  | x::t=>if x≠0 then x else orM t
def cmpD (a b:Dg):Int:=orM [-cmpI (if a.num<1 then a.num else 1) (if b.num<1 then b.num else 1),cmpI a.num b.num,cmpI a.yr b.yr,cmpI a.half b.half,cmpI a.cyc b.cyc,cmpI a.sec b.sec]
def ordD (a b:Dg):Int:=if okD a&&okD b then cmpD a b else 0
theorem orM_none:∀ {l:List Int},(∀ i,i<l.length→l.getD i 0=0)→orM l=0
  | [],_=>rfl
  | x::t,h=>by
    have h0:=h 0 (by simp)
    simp only [List.getD_cons_zero] at h0
    unfold orM
    rw [if_neg (by simp [h0])]
    exact orM_none fun i hi=>by simpa using h (i+1) (by simpa using hi)
theorem orM_hit:∀ {l:List Int} {k:Nat},(∀ i,i<k→l.getD i 0=0)→k<l.length→l.getD k 0≠0→orM l=l.getD k 0
  | [],_,_,h,_=>by simp at h
  | x::t,0,_,_,h=>by
    simp only [List.getD_cons_zero] at h ⊢
    unfold orM
    rw [if_pos h]
  | x::t,k+1,h,hk,hn=>by
    have h0:=h 0 (by omega)
    simp only [List.getD_cons_zero] at h0
    simp only [List.getD_cons_succ] at hn ⊢
    unfold orM
    rw [if_neg (by simp [h0])]
    exact orM_hit (fun i hi=>by simpa using h (i+1) (by omega)) (by simpa using hk) hn
theorem cmpI_val (x y : Int) : cmpI x y = -1 ∨ cmpI x y = 0 ∨ cmpI x y = 1 := by unfold cmpI; split; · exact .inl rfl
                                                                                 · split; · exact .inr (.inr rfl)
                                                                                   · exact .inr (.inl rfl)
theorem cmpI_neg (x y:Int):-9223372036854775808≤-cmpI x y∧-cmpI x y≤9223372036854775807:=by rcases cmpI_val x y with h | h | h <;> rw [h] <;> decide
theorem okE_ne {d:Dg} (h:(if okD d then (0:Int) else 8)≠0):okD d=false:=by
  cases hc:okD d with
  | false=>rfl
  | true=>rw [hc] at h; exact absurd rfl h
theorem okE_eq {d:Dg} (h:¬ (if okD d then (0:Int) else 8)≠0):okD d=true:=by
  cases hc:okD d with
  | true=>rfl
  | false=>rw [hc] at h; exact absurd (by decide) h
theorem cmpR1 {x y:Dg} (h1:(if okD x then (0:Int) else 8)≠0):Value.tuple #[.int .i64 0,.int .i64 (if okD x then (0:Int) else 8)]=.tuple #[.int .i64 (ordD x y),.int .i64 (if okD x&&okD y then 0 else 8)]:=by
  simp only [ordD,okE_ne h1,Bool.false_and]; rfl
theorem cmpR2 {x y:Dg} (h1:¬ (if okD x then (0:Int) else 8)≠0) (h2:(if okD y then (0:Int) else 8)≠0):Value.tuple #[.int .i64 0,.int .i64 (if okD y then (0:Int) else 8)]=.tuple #[.int .i64 (ordD x y),.int .i64 (if okD x&&okD y then 0 else 8)]:=by
  simp only [ordD,okE_eq h1,okE_ne h2,Bool.and_false]; rfl
theorem cmpR3 {x y:Dg} (h1:¬ (if okD x then (0:Int) else 8)≠0) (h2:¬ (if okD y then (0:Int) else 8)≠0):Value.tuple #[.int .i64 (cmpD x y),.int .i64 0]=.tuple #[.int .i64 (ordD x y),.int .i64 (if okD x&&okD y then 0 else 8)]:=by
  simp only [ordD,okE_eq h1,okE_eq h2,Bool.and_self,if_true]
theorem St.rdPt {w0 w:World} {X:Nat→Prop} {B M:List Asr} {j b n sz:Nat} {cs:Array Value} {e:TypeId} {z:Nat × Nat} {xs:List Value} (h:St w0 w X B M) (hi:M[j]? = some (pt b (.cells cs e z))) (hn:n≤maxLen) (hc:cs.size=n*sz) (hx:cs=xs.toArray) :
    rdOK (hp w) sz (.slice (some ⟨b,0,none⟩) n n) n xs:=by
  have h1:w.heap[b]? = some (.cells cs e z):=h.at_ hi
  subst hx
  refine ⟨by simpa using hc,hn,some ⟨b,0,none⟩,n,rfl,fun _=>⟨_,_,_,_,rfl,rfl,h1,fun j u hu=>by simpa using hu⟩⟩
end Go.SL

namespace Go.SL
open Go Go.Proofs Go.Shelf Go.RowKit Go.Sort Go.Lib
section
variable {T:Type} [Inhabited T] {E:T→List Value} {k:Nat}
theorem sortF_G {P:Program} {ρ:Ren} {f g:FuncId} (lay:SlLaysF0.n6 P ρ) (hf:ρ.f 6=f) (aE:∀ w,(isAgg (ρ.t 24)).run P w=.ok true w) (zE:∀ w,(Go.sizeOf (ρ.t 24)).run P w=.ok k w) (hk:∀ x,(E x).length=k) (h1:∀ x,∀ v ∈ E x,v.oneCell'=true)
    (cf:T→T→Int) (hO:SWO (ltOf cf)) (hT:∀ x y,(ltOf cf) x y=false→(ltOf cf) y x=false→x=y) (eg:∀ args w,(callFunc g args).run P w=.ok (.enter g args) w)
    (e:TypeId) (v:Value) (l:List T) (w0:World) (hX:slOK (hp w0) e k v l.length (encs E l)) (hl:l.length≤10000)
    (hc:∀ x y W,w0.heap.size≤W.heap.size→(∀ b,b<w0.heap.size→v.ownBlock≠some b→W.heap[b]? = w0.heap[b]?)→Calls P g #[.agg (E x).toArray,.agg (E y).toArray] W fun e w'=>e=.returned (.int .i64 (cf x y))∧∃ q os',w'=grow (W.drewN q) os') :
    Ret P f #[v,.func (.func g) #[] #[]] w0 (G:=Unit) (fun _=>.tuple #[]) (fun _ w=>St w0 w (fun k=>v.ownBlock=some k) [] [slE e k E v (srtF (ltOf cf) l)]):=by
  subst hf
  have hlen:=srtF_len (ltOf cf) l
  have hS:=St.own hX
  unfold slE
  rcases hX.2 with ⟨rfl,hn⟩ | ⟨b,cap,cur,rfl,hg,q1,q2,q3,q4⟩
  · obtain rfl:l=[]:=List.eq_nil_of_length_eq_zero hn
    refine Calls.mono (AnyF.slices_SortFunc_none lay none 0 _ w0) ?_
    rintro e w ⟨rfl,rfl⟩
    refine ⟨(),rfl,?_⟩
    rw [show srtF (ltOf cf) ([]:List T)=[] from by simp [srtF]]
    exact hS
  · have hb:w0.heap[b]? = some (.cells cur e (0,0)):=hg
    have hgl:=(Array.getElem?_eq_some_iff.1 hb).1
    have hfl:=flat_at hk l
    have hsz:(flatK E k l.toArray).size=l.length*k:=by simp
    have hH:HoldsK E k w0 b 0 l.toArray:=holds_flat hb (by rw [hsz,hfl]; exact q4)
    have hcl:CmpLays P g #[] E k cf b 0 l.toArray.size w0:=fun m os dk _ x y=>by
      refine hc x y _ ?_ ?_
      · unfold sortWorldK putRowK
        have:=(grown_put (w:=w0) (g:=b) (n:=m) (os:=os) (flatK E k dk)).size
        exact this
      · intro b' hb' hne
        unfold sortWorldK putRowK
        exact (grown_put (w:=w0) (g:=b) (n:=m) (os:=os) (flatK E k dk)).block b' hb' (fun h=>hne h.symm)
    have hcon:=AnyQ.slices_SortFunc_total lay k aE zE E hk h1 cf hO g #[] b 0 cap l.toArray w0 eg hcl hH hgl (by simp; omega) hT
    refine Calls.mono (by simpa using hcon) ?_
    rintro e' w ⟨rfl,n,os,rfl⟩
    refine ⟨(),rfl,?_⟩
    rw [show l.mergeSort (fun x y=>!ltOf cf y x)=srtF (ltOf cf) l from rfl]
    unfold sortWorldK putRowK
    have hgb:=grown_put (w:=w0) (g:=b) (n:=n) (os:=os) (flatK E k (srtF (ltOf cf) l).toArray)
    have hfl':=flat_at hk (srtF (ltOf cf) l)
    have hsz':(flatK E k (srtF (ltOf cf) l).toArray).size=l.length*k:=by simp [hlen]
    have hhp:=heap_put (n:=n) (os:=os) (flatK E k (srtF (ltOf cf) l).toArray) hb
    generalize grow (putRow id (Sort.ahead w0 n) b 0 (flatK E k (srtF (ltOf cf) l).toArray)) os=w at hgb hhp
    have hok:slOK (hp w) e k (.slice (some ⟨b,0,none⟩) l.length cap) (srtF (ltOf cf) l).length (encs E (srtF (ltOf cf) l)):=by
      rw [hlen]
      refine ⟨by rw [encs_len hk,hlen],.inr ⟨b,cap,_,rfl,hhp,q1,q2,by simp [putCells,q3],?_⟩⟩
      have hle:(flatK E k (srtF (ltOf cf) l).toArray).size≤cur.size:=by rw [hsz',q3]; exact Nat.mul_le_mul_right k q1
      rw [← hsz',take_put cur _ hle,hfl']
    exact hS.write (i:=0) (p:=sl e k (.slice (some ⟨b,0,none⟩) l.length cap) l.length (encs E l)) rfl hgb.os hgb.tape hgb.output hgb.size (fun b' hb' hne=>hgb.block b' hb' (fun e=>hne (by
      simp only [Option.some.injEq] at e; subst e; rfl))) hok (fun b' hb'=>⟨.inl hb',by
        have:b=b':=by simpa [sl,Value.ownBlock] using hb'
        have:=hgb.size; omega⟩)
end
def lexC:List Int→List Int→Int
  | x::s,y::t=>if x<y then -1 else if x>y then 1 else lexC s t
  | _,_=>0
theorem lexC_self:∀ l,lexC l l=0
  | []=>rfl
  | x::t=>by unfold lexC; rw [if_neg (by omega),if_neg (by omega)]; exact lexC_self t
theorem lexC_anti:∀ (a b:List Int),lexC b a=-lexC a b
  | [],[]=>rfl
  | [],_::_=>rfl
  | _::_,[]=>rfl
  | x::s,y::t=>by
    have:=lexC_anti s t
    unfold lexC
    by_cases h1:x<y
    · rw [if_neg (show ¬ y<x by omega),if_pos (show y>x from h1),if_pos h1]; rfl
    · by_cases h2:x>y
      · rw [if_pos (show y<x from h2),if_neg h1,if_pos h2]
      · rw [if_neg (show ¬ y<x by omega),if_neg (show ¬ y>x by omega),if_neg h1,if_neg h2]; exact this
theorem lexC_zero:∀ {a b:List Int},a.length=b.length→lexC a b=0→a=b
  | [],[],_,_=>rfl
  | x::s,y::t,hl,h=>by
    unfold lexC at h
    split at h
    · omega
    · split at h
      · omega
      · rw [lexC_zero (by simpa using hl) h,show x=y from by omega]
theorem lexC_trans:∀ {a b c:List Int},a.length=b.length→b.length=c.length→lexC a b≤0→lexC b c≤0→lexC a c≤0∧(lexC a b<0∨lexC b c<0→lexC a c<0)
  | [],[],[],_,_,_,_=>⟨by decide,by decide⟩
  | x::s,y::t,z::u,h1,h2,h3,h4=>by
    unfold lexC at h3 h4 ⊢
    have ih:=lexC_trans (a:=s) (b:=t) (c:=u) (by simpa using h1) (by simpa using h2)
    split at h3
    · split at h4
      · rw [if_pos (by omega)]; exact ⟨by decide,fun _=>by decide⟩
      · split at h4
        · omega
        · rw [if_pos (by omega)]; exact ⟨by decide,fun _=>by decide⟩
    · split at h3
      · omega
      · split at h4
        · rw [if_pos (by omega)]; exact ⟨by decide,fun _=>by decide⟩
        · split at h4
          · omega
          · rw [if_neg (by omega),if_neg (by omega)]
            have:=ih h3 h4
            refine ⟨this.1,fun h=>this.2 ?_⟩
            rw [if_neg (by omega),if_neg (by omega),if_neg (by omega),if_neg (by omega)] at h
            exact h
def keyL (d:Dg):List Int:=[-(if d.num<1 then d.num else 1),d.num,d.yr,d.half,d.cyc,d.sec]
theorem orM_cons (x y:Int) (l:List Int):orM (cmpI x y::l)=if x<y then -1 else if x>y then 1 else orM l:=by
  show (if cmpI x y≠0 then cmpI x y else orM l)=_
  unfold cmpI
  by_cases h1:x<y
  · rw [if_pos h1,if_pos h1,if_pos (by decide)]
  · by_cases h2:x>y
    · rw [if_neg h1,if_pos h2,if_pos (by decide),if_neg h1,if_pos h2]
    · rw [if_neg h1,if_neg h2,if_neg (by decide),if_neg h1,if_neg h2]
theorem cmpI_swap (x y:Int):-cmpI x y=cmpI (-x) (-y):=by
  unfold cmpI
  by_cases h:x<y
  · rw [if_pos h,if_neg (by omega),if_pos (by omega)]; rfl
  · by_cases h2:x>y
    · rw [if_neg h,if_pos h2,if_pos (by omega)]
    · rw [if_neg h,if_neg h2,if_neg (by omega),if_neg (by omega)]; rfl
theorem cmpD_lex (a b:Dg):cmpD a b=lexC (keyL a) (keyL b):=by
  unfold cmpD keyL
  rw [cmpI_swap]
  simp only [orM_cons,lexC]
  rfl
theorem keyL_inj {a b:Dg} (h:keyL a=keyL b):a=b:=by
  unfold keyL at h
  simp only [List.cons.injEq,and_true] at h
  obtain ⟨_,h1,h2,h3,h4,h5⟩:=h
  cases a; cases b
  simp only at h1 h2 h3 h4 h5
  subst h1 h2 h3 h4 h5
  rfl
theorem cmpD_eq {a b:Dg} (h:cmpD a b=0):a=b:=keyL_inj (lexC_zero rfl (by rw [← cmpD_lex]; exact h))
theorem cmpD_anti (a b:Dg):cmpD b a=-cmpD a b:=by rw [cmpD_lex,cmpD_lex]; exact lexC_anti _ _
theorem cmpD_self (a:Dg):cmpD a a=0:=by rw [cmpD_lex]; exact lexC_self _
theorem cmpD_trans {a b c:Dg} (h1:cmpD a b≤0) (h2:cmpD b c≤0):cmpD a c≤0∧(cmpD a b<0∨cmpD b c<0→cmpD a c<0):=by
  rw [cmpD_lex a b] at *
  rw [cmpD_lex b c] at *
  rw [cmpD_lex a c]
  exact lexC_trans rfl rfl h1 h2
def ltD (a b:Dg):Bool:=decide (cmpD a b<0)
theorem swoOn {T:Type} (key:T→Dg):SWO (ltOf fun x y:T=>cmpD (key x) (key y)) where
  irrefl x:=by unfold ltOf; simp only [decide_eq_false_iff_not,cmpD_self]; decide
  trans x y z h1 h2:=by
    unfold ltOf at *
    simp only [decide_eq_true_eq] at *
    exact (cmpD_trans (by omega) (by omega)).2 (.inl h1)
  ntrans x y z h1 h2:=by
    unfold ltOf at *
    simp only [decide_eq_false_iff_not] at *
    have a1:=cmpD_anti (key x) (key y)
    have a2:=cmpD_anti (key y) (key z)
    have a3:=cmpD_anti (key x) (key z)
    have:=(cmpD_trans (a:=key z) (b:=key y) (c:=key x) (by omega) (by omega)).1
    omega
theorem totOn {T:Type} {key:T→Dg} (hi:∀ x y,key x=key y→x=y) (x y:T) (h1:ltOf (fun x y:T=>cmpD (key x) (key y)) x y=false) (h2:ltOf (fun x y:T=>cmpD (key x) (key y)) y x=false):x=y:=by
  unfold ltOf at *
  simp only [decide_eq_false_iff_not] at *
  have a1:=cmpD_anti (key x) (key y)
  exact hi _ _ (cmpD_eq (by omega))
end Go.SL
