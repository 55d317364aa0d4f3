/- Part of a proof: laws and walks. -/
import Derived.Test.YtipfobacinmoiaaGreatTac
import Derived.Test.YtipfobacinmoiaaGreatTal
import Derived.Test.YtipfobacinmoiaaGreatTah
set_option linter.unusedVariables false
set_option linter.unusedSimpArgs false
set_option maxHeartbeats 1000000
set_option maxRecDepth 8000
namespace Go.Proofs.YtipfobacinmoiaaGreat
open Go Go.SL Go.Shelf Go.RowKit Go.Maps
theorem p9 (fW fH:Int) (vP:Value) (zs:List Int) (w0:World) (hfo:Det.aM fW fH zs) (hP:aQ (hp w0) 1 vP zs.length (ints zs)) :
    Ret Tryz.prog 25 #[(fG fW fH vP)] w0 (G:=Unit) (fun _=>iV 0) (fun _ w=>St w0 w noX [] []):=by
  haveI:Decidable (Det.aM fW fH zs):=.isTrue hfo; have h:=jd fW fH vP zs w0 hP; rw [if_pos hfo] at h; exact h
theorem uQ (fW fH:Int) (vP:Value) (zs:List Int) (w0:World) (hfo:¬ Det.aM fW fH zs) (hP:aQ (hp w0) 1 vP zs.length (ints zs)) :
    Ret Tryz.prog 25 #[(fG fW fH vP)] w0 (G:=Unit) (fun _=>iV 8) (fun _ w=>St w0 w noX [] []):=by
  haveI:Decidable (Det.aM fW fH zs):=.isFalse hfo; have h:=jd fW fH vP zs w0 hP; rw [if_neg hfo] at h; exact h
end Go.Proofs.YtipfobacinmoiaaGreat

namespace Go.SL
open Go
def qV (Bs:List (Nat × Obj)):Asr:=⟨fun b=>∃ p ∈ Bs,b=p.1,fun h=>∀ p ∈ Bs,h p.1=some p.2,fun h h' hk hh p hp=>by rw [hk p.1 ⟨p,hp,rfl⟩]; exact hh p hp⟩
section
variable {h:Hp} {sz n:Nat} {v:Value} {xs:List Value} {w w0:World} {X:Nat→Prop} {B M:List Asr} {b:Nat} {o:Obj} {Bs:List (Nat × Obj)}
theorem aQ.obs (hr:aQ h sz v n xs):∃ Bs:List (Nat × Obj),(∀ p ∈ Bs,h p.1=some p.2∧0<n∧v.ownBlock=some p.1)∧∀ h':Hp,(∀ p ∈ Bs,h' p.1=some p.2)→aQ h' sz v n xs:=by
  obtain ⟨h1,h2,A,c,rfl,h3⟩:=hr
  rcases Nat.eq_zero_or_pos n with hn | hn
  · exact ⟨[],by simp,fun h' _=>⟨h1,h2,A,c,rfl,fun h0=>by omega⟩⟩
  · obtain ⟨a,cur,e,z,rfl,hs,hb,hc⟩:=h3 hn
    refine ⟨[(a.block,.cells cur e z)],fun p hp=>?_,fun h' hh=>⟨h1,h2,some a,c,rfl,fun _=>⟨a,cur,e,z,rfl,hs,hh _ List.mem_cons_self,hc⟩⟩⟩
    rw [List.mem_singleton.1 hp]
    exact ⟨hb,hn,rfl⟩
theorem St.aBs (hb:w.heap[b]? = some o) (hr:aQ (hp w) sz v n xs):St w w noX [pt b o,rdv sz v n xs] []:=by
  refine St.borrow fun p hp=>?_
  rcases List.mem_cons.1 hp with rfl | hp
  · refine ⟨hb,fun k hk=>?_⟩
    have hk:k=b:=hk
    subst hk
    exact (Array.getElem?_eq_some_iff.1 hb).1
  · rw [List.mem_singleton.1 hp]
    exact ⟨hr,fun k hk=>hr.lt hk.1 hk.2⟩
theorem St.oJ (hS:St w w noX B M) (h:∀ p ∈ Bs,w.heap[p.1]? = some p.2):St w w noX (qV Bs::B) M :=
  ⟨hS.os,hS.tape,hS.output,hS.size,hS.old,hS.sep,fun p hp=>by
    rcases List.mem_cons.1 hp with rfl | hp
    · exact ⟨h,fun b ⟨q,hq,hb⟩=>⟨by subst hb; exact (Array.getElem?_eq_some_iff.1 (h q hq)).1,fun h=>h⟩⟩
    · exact hS.bor p hp⟩
theorem St.aC2 {j:Nat} (hS:St w0 w X B M) (hi:B[j]? = some (qV Bs)):∀ p ∈ Bs,w.heap[p.1]? = some p.2:=hS.bat hi
end
end Go.SL

namespace Go.SL
open Go
def y5 (p:Prop):Asr:=⟨fun _=>False,fun _=>p,fun _ _ _ h=>h⟩
section
variable {w0 w w1:World} {X X1:Nat→Prop} {B M:List Asr} {p:Prop} {j e:Nat} {us:List Value} {outs:List (List Int)} {v:Value} {x:List Int} {l:List Int} {k:Nat}
theorem St.pure (hS:St w0 w X B M) (h:p):St w0 w X B (y5 p::M):=hS.u6 h (fun _ h=>h)
theorem St.fact (hS:St w0 w X B M) (hi:M[j]? = some (y5 p)):p:=hS.at_ hi
theorem zm (hl:us.length=outs.length):dR e us outs++[sl e 1 v x.length (ints x)]=dR e (us++[v]) (outs++[x]):=by
  unfold dR
  rw [List.length_append,List.length_singleton,List.range_succ,List.map_append]
  congr 1
  · refine List.map_congr_left fun i hi=>?_
    have hi:=List.mem_range.1 hi
    simp [List.getD_eq_getElem?_getD,List.getElem?_append_left hi,List.getElem?_append_left (show i<outs.length by omega)]
  · simp [List.getD_eq_getElem?_getD,hl]
theorem St.aCp (hS:St w0 w X B (SL.sl e 1 v x.length (ints x)::dH (dR e us outs)::M)) (hl:us.length=outs.length):St w0 w X B (dH (dR e (us++[v]) (outs++[x]))::M):=by
  have h1:=St.nA (N:=[]) hS
  have h2:=h1.uI (i:=0) (l':=dR e (us++[v]) (outs++[x])) rfl (by rw [← zm hl]; exact (List.perm_append_singleton _ _).symm)
  exact h2
theorem Lt.drop (h:Lt w1 X1 (rdv 1 v l.length (ints l))) (hf:vfit v) (hk:k≤l.length):Lt w1 X1 (rdv 1 (fO v l k) (l.drop k).length (ints (l.drop k))):=by
  have h1:aQ (hp w1) 1 v l.length (ints l):=h.1
  refine ⟨(h1.fO hf hk).1,fun b hb=>?_⟩
  have hb0:0<(l.drop k).length:=hb.1
  have hb1:(fO v l k).ownBlock=some b:=hb.2
  refine h.2 b ⟨?_,?_⟩
  · rw [List.length_drop] at hb0; omega
  · rw [← hb1]
    unfold fO
    refine (aBp (enc:=fun x:Int=>[Value.int .i64 x]) (xK h1 hf) ?_ ⟨by omega,by omega,by omega⟩).symm
    rw [rY]; exact hb0
end
theorem aBd {h:Hp} {v:Value} {l:List Int} (hr:aQ h 1 v l.length (ints l)) (hne:l≠[]):∃ ad c,v=.slice (some ad) l.length c:=by
  obtain ⟨_,_,A,c,rfl,h3⟩:=hr
  obtain ⟨a,_,_,_,rfl,_⟩:=h3 (List.length_pos_iff.2 hne)
  exact ⟨a,c,rfl⟩
theorem yZ {α:Type} {l:List α} {j:Nat} {x:α} (h:l[j]? = some x):l.take (j+1)=l.take j++[x]:=by
  obtain ⟨hj,rfl⟩:=List.getElem?_eq_some_iff.1 h
  exact List.take_succ_eq_append_getElem hj
section
variable {r:Option Nat} {P:Program} {Q:Exit→Act→World→Prop} {ops:Array Oper} {i:Nat} {rest:List Nat} {a:Act} {w w0 w':World} {n:Nat} {ds:List Deferred} {L:List (Nat × Value)}
  {d:Nat} {op:Op} {ty:TypeId} {pos:String} {af:Array Edge} {v x:Value} {f y:Operand} {l:Nat} {at_:Array TypeId}
theorem xP {m:Nat} {fn:FuncId} {tmps:Array Value} {assign body:Code} {R:Ending→World→Prop} (h:RoundIn (FW none) m P l fn tmps assign body w R):RoundIn (FW r) 0 P l fn tmps assign body w R :=
  ⟨trivial,fun c cs _=>let ⟨e,w',h1,s⟩:=h.2 c cs (yu _ _); ⟨e,w',h1,jl.2 (jl.1 s)⟩⟩
theorem O.aAe {R:World→Prop} (hf:Fr a n ds L) (ho:ops[i]? = some ⟨some d,.call ⟨.value f,#[y],at_⟩,ty,pos,af,none⟩) (hd:Nat.blt d n=true) (hx:ev L f=some (.func (.yield l) #[] #[])) (hy:ev L y=some x)
    (hY:YieldAt (FW none) 0 P l #[x] w (fun e w'=>e=.returned (.bool true)∧R w'))
    (k:∀ w' a',R w'→Fr a' n ds ((d,.bool true)::L)→O r P ops Q rest a' w'):O r P ops Q (i::rest) a w:=by
  obtain ⟨fn,tmps,assign,body,h1,h2⟩:=hY
  unfold O wpOpsIn
  simp only [ho]
  rw [if_pos (by simp [Region.wanted])]
  refine ⟨fun _ _=>trivial,?_⟩
  rw [fE (o:=⟨some d,.call ⟨.value f,#[y],at_⟩,ty,pos,af,none⟩) rfl,jJ hf hx hy h1]
  refine ⟨fun h=>by simp [FW] at h,(xP h2).mono ?_⟩
  rintro e w' ⟨rfl,hR⟩
  exact k w' _ hR (hf.put hd _)
end
end Go.SL
namespace Det
theorem flat_get {α:Type} {l:List (List Int)} {f:List Int→List α} {s j:Nat} {x:α} (hs:s<l.length) (h:(f (l.getD s []))[j]? = some x):(l.flatMap f)[((l.take s).flatMap f).length+j]? = some x:=by
  have e:l.flatMap f=(l.take s).flatMap f++(f (l.getD s [])++(l.drop (s+1)).flatMap f):=by
    conv=>lhs; rw [← List.take_append_drop s l,List.flatMap_append,List.drop_eq_getElem_cons hs,List.flatMap_cons]
    rw [List.getD_eq_getElem?_getD,List.getElem?_eq_getElem hs]; rfl
  rw [e,List.getElem?_append_right (by omega),Nat.add_sub_cancel_left]
  have hj:=(List.getElem?_eq_some_iff.1 h).1
  rw [List.getElem?_append_left hj]
  exact h
end Det
