/- Part of a proof: laws and walks. -/
import Derived.Test.YtbccfconmcgfgaaGreatTai
set_option linter.unusedVariables false
set_option linter.unusedSimpArgs false
namespace Go.Proofs.YtbccfconmcgfgaaGreat
open Go Go.SL Go.Shelf Go.RowKit Go.Maps
theorem aCl:au Tryz.prog 36=true:=by kernel_rfl
theorem aFF:au Tryz.prog 60=true:=by kernel_rfl
theorem aEl:mo Tryz.prog 23=some false:=by kernel_rfl
theorem tZ:l7 Tryz.prog 88 0=some 0:=by kernel_rfl
theorem yI:l7 Tryz.prog 88 1=some 1:=by kernel_rfl
theorem uE:l7 Tryz.prog 88 2=some 2:=by kernel_rfl
theorem xU:l7 Tryz.prog 88 3=some 3:=by kernel_rfl
theorem aB5:ul Tryz.prog 88=some #[(0,1),(1,1),(2,1),(3,1)]:=by kernel_rfl
theorem aDg:dB Tryz.prog 23=some 1:=by kernel_rfl
theorem aDf:iQ Tryz.prog 88=some (.agg #[.slice none 0 0,.slice none 0 0,.int .i64 0,.int .i64 0]):=by kernel_rfl
theorem aA.toB {P:Program} {n:Nat} {ds:List Deferred} {L:List (Nat × Value)} {op:Op} {ty:TypeId} {w w2:World} {b c:Bool} (h:aA P n ds L op ty w (.bool b) w2) (e:b=c):aA P n ds L op ty w (.bool c) w2:=e▸h
/-- what a search writes: itself, its best order -/
def srA (b:Nat) (vl vb:Value) (q:List Int) (v e:Int):Asr:=aFN [pt b (.cells #[vl,vb,.int .i64 v,.int .i64 e] 88 (0,0)),sl 3 1 vb q.length (ints q)]
theorem zx {h:Hp} {v:Value} {l:List Int} (hr:aV h 1 E3 v l):sI h 1 v l.length (ints l):=by
  have:=hr.1
  rwa [show encs E3 l=ints l from yX l] at this
theorem aCc {h:Hp} {v:Value} {l:List Int} (hr:sI h 1 v l.length (ints l)) (hf:vfit v):aV h 1 E3 v l:=aEF hr hf
set_option maxHeartbeats 1000000 in
set_option maxRecDepth 4000 in
theorem aDe (b:Nat) (vl vb vo:Value) (l:List BTask) (p:List Nat) (u:Nat) (z:SSt) (w0:World) (n:Nat) (hg:goes l E0 p=none) (hl:l.length≤8) (ok:∀ t ∈ l,Okt t) (hu:u<256) (hpu:p.length≤u) (hpr:∀ i ∈ p,i<l.length) (hlv:aV (hp w0) 4 E40 vl l) (ho:aV (hp w0) 1 E3 vo (ofN p)) (h0:Lent w0 (srA b vl vb (ofN z.1) z.2.1 z.2.2)) (al:∀ k,(rdE 4 E40 vl l).fp k→¬ (srA b vl vb (ofN z.1) z.2.1 z.2.2).fp k) (ao:∀ k,(rdE 1 E3 vo (ofN p)).fp k→¬ (srA b vl vb (ofN z.1) z.2.1 z.2.2).fp k) :
    Ret Tryz.prog 36 #[.pointer (some ⟨b,0,none⟩),vo,.int .i64 (u:Int)] w0 (G:=Value) (fun _=>.tuple #[]) (fun v w=>St w0 w (fun k=>(srA b vl vb (ofN z.1) z.2.1 z.2.2).fp k) [] [srA b vl v (ofN (srch l (n+1) p u z).1) (srch l (n+1) p u z).2.1 (srch l (n+1) p u z).2.2]):=by
  refine aX (lv:=[.pointer (some ⟨b,0,none⟩),vo,.int .i64 (u:Int)]) Tryz.func36 rfl rfl rfl (fun a hf=>?_)
  replace hf:Fr a 96 [] [(0,.pointer (some ⟨b,0,none⟩)),(1,vo),(2,.int .i64 (u:Int))]:=hf
  have hS:St w0 w0 (fun k=>(srA b vl vb (ofN z.1) z.2.1 z.2.2).fp k) [rdE 4 E40 vl l,rdE 1 E3 vo (ofN p)] [pt b (.cells #[vl,vb,.int .i64 z.2.1,.int .i64 z.2.2] 88 (0,0)),sl 3 1 vb ((ofN z.1).length) (ints (ofN z.1))]:=by
    have h:=St.zZ (N:=[]) (l:=[pt b (.cells #[vl,vb,.int .i64 z.2.1,.int .i64 z.2.2] 88 (0,0)),sl 3 1 vb ((ofN z.1).length) (ints (ofN z.1))]) (M:=[]) (St.aGN (A:=srA b vl vb (ofN z.1) z.2.1 z.2.2) h0 (aD (aY hlv) (aD (aY ho) aL)) (kF al (kF ao nW)))
    exact h
  have hends:oK 8589934592 l (ofN p)=some ([],0,false):=by rw [wO 8589934592 (by omega) l ok p (by omega) hpr,hg]
  refine W.seq ?_
  refine W.aU (l:=[0,1,2,3,4,5,6,7,8,9,10,11,12]) rfl ?_
  refine O.val hf rfl rfl rfl (aA.move rfl) ?_
  clear hf a; intro a hf
  refine O.val hf rfl rfl rfl (aA.nilCheck rfl) ?_
  clear hf a; intro a hf
  refine O.val hf rfl rfl rfl (aA.field tZ rfl rfl) ?_
  clear hf a; intro a hf
  refine O.val hf rfl rfl rfl (aA.aR sD rfl (hS.wG (i:=0) rfl) rfl) ?_
  clear hf a; intro a hf
  refine O.val hf rfl rfl rfl (aA.move rfl) ?_
  clear hf a; intro a hf
  refine O.wY hf rfl rfl rfl (tY.call (av:=#[vl,vo]) zb rfl rfl rfl) (qm 8589934592 vl l vo (ofN p) _ (hS.rdB (j:=0) rfl) (hS.rdB (j:=1) rfl) ([],0,false) hends) ?_
  clear hf a
  rintro vx w1 hS1 a hf
  replace hf:Fr a _ _ ((17,.tuple #[vx,.int .i64 0,.bool false])::_):=hf
  replace hS:=(hS.call hS1).eqM (N:=[slE 85 2 E85 vx [],pt b (.cells #[vl,vb,.int .i64 z.2.1,.int .i64 z.2.2] 88 (0,0)),sl 3 1 vb ((ofN z.1).length) (ints (ofN z.1))]) rfl
  clear hS1
  refine O.val hf rfl rfl rfl (aA.move rfl) ?_
  clear hf a; intro a hf
  refine O.val hf rfl rfl rfl (aA.extract rfl rfl) ?_
  clear hf a; intro a hf
  refine O.val hf rfl rfl rfl (aA.extract rfl rfl) ?_
  clear hf a; intro a hf
  refine O.val hf rfl rfl rfl (aA.extract rfl rfl) ?_
  clear hf a; intro a hf
  refine O.val hf rfl rfl rfl (aA.assign rfl) ?_
  clear hf a; intro a hf
  refine O.val hf rfl rfl rfl (aA.assign rfl) ?_
  clear hf a; intro a hf
  refine O.val hf rfl rfl rfl (aA.assign rfl) ?_
  clear hf a; intro a hf
  refine O.nil ?_
  refine aP ?_
  replace hf:Fr a 96 [] [(0,.pointer (some ⟨b,0,none⟩)),(1,vo),(2,.int .i64 (u:Int)),(7,.int .i64 0),(8,.bool false)]:=hf.to ⟨rfl,rfl,rfl,rfl,rfl,trivial⟩
  refine W.seq ?_
  refine W.seq ?_
  refine W.aU (l:=[0,1]) rfl ?_
  refine O.val hf rfl rfl rfl (aA.move rfl) ?_
  clear hf a; intro a hf
  refine O.val (v:=.bool true) hf rfl rfl rfl (aA.not (b:=false) rfl) ?_
  clear hf a; intro a hf
  refine O.nil ?_
  refine aP ?_
  replace hf:Fr a 96 [] [(0,.pointer (some ⟨b,0,none⟩)),(1,vo),(2,.int .i64 (u:Int)),(7,.int .i64 0),(22,.bool true)]:=hf.to ⟨rfl,rfl,rfl,rfl,rfl,trivial⟩
  refine W.wZ hf rfl ?_
  refine W.ret ?_
  refine aF ?_
  refine aDD hf rfl  ?_
  replace hS:=hS.front (i:=2) (M':=[sl 3 1 vb ((ofN z.1).length) (ints (ofN z.1)),slE 85 2 E85 vx [],pt b (.cells #[vl,vb,.int .i64 z.2.1,.int .i64 z.2.2] 88 (0,0))]) rfl rfl
  replace hS:=hS.front (i:=2) (M':=[pt b (.cells #[vl,vb,.int .i64 z.2.1,.int .i64 z.2.2] 88 (0,0)),sl 3 1 vb ((ofN z.1).length) (ints (ofN z.1)),slE 85 2 E85 vx []]) rfl rfl
  refine ⟨vb,rfl,?_⟩
  rw [aGT hg]
  exact St.xH (N:=[]) (l:=[pt b (.cells #[vl,vb,.int .i64 z.2.1,.int .i64 z.2.2] 88 (0,0)),sl 3 1 vb ((ofN z.1).length) (ints (ofN z.1))]) (M:=[]) ((hS.sub (N:=[pt b (.cells #[vl,vb,.int .i64 z.2.1,.int .i64 z.2.2] 88 (0,0)),sl 3 1 vb ((ofN z.1).length) (ints (ofN z.1))]) (.cons_cons _ (.cons_cons _ (.cons _ .slnil)))).noB)
def aEU (n:Nat):Prop:=∀ (b:Nat) (vl vb vo:Value) (l:List BTask) (p:List Nat) (u:Nat) (z:SSt) (w0:World),256≤n+u→l.length≤8→(∀ t ∈ l,Okt t)→u<256→p.length≤u→(∀ i ∈ p,i<l.length)→aV (hp w0) 4 E40 vl l→aV (hp w0) 1 E3 vo (ofN p)→Lent w0 (srA b vl vb (ofN z.1) z.2.1 z.2.2)→(∀ k,(rdE 4 E40 vl l).fp k→¬ (srA b vl vb (ofN z.1) z.2.1 z.2.2).fp k)→(∀ k,(rdE 1 E3 vo (ofN p)).fp k→¬ (srA b vl vb (ofN z.1) z.2.1 z.2.2).fp k)→Ret Tryz.prog 36 #[.pointer (some ⟨b,0,none⟩),vo,.int .i64 (u:Int)] w0 (G:=Value) (fun _=>.tuple #[]) (fun v w=>St w0 w (fun k=>(srA b vl vb (ofN z.1) z.2.1 z.2.2).fp k) [] [srA b vl v (ofN (srch l n p u z).1) (srch l n p u z).2.1 (srch l n p u z).2.2])
set_option maxHeartbeats 1000000 in
set_option maxRecDepth 4000 in
theorem aDP (b:Nat) (vl vb vo:Value) (l:List BTask) (p:List Nat) (u:Nat) (z:SSt) (w0:World) (n:Nat) (hn:256≤n+1+u) (ih:aEU n) (r:BRun) (hg:goes l E0 p=some r) (hl:l.length≤8) (ok:∀ t ∈ l,Okt t) (hu:u<256) (hpu:p.length≤u) (hpr:∀ i ∈ p,i<l.length) (hlv:aV (hp w0) 4 E40 vl l) (ho:aV (hp w0) 1 E3 vo (ofN p)) (h0:Lent w0 (srA b vl vb (ofN z.1) z.2.1 z.2.2)) (al:∀ k,(rdE 4 E40 vl l).fp k→¬ (srA b vl vb (ofN z.1) z.2.1 z.2.2).fp k) (ao:∀ k,(rdE 1 E3 vo (ofN p)).fp k→¬ (srA b vl vb (ofN z.1) z.2.1 z.2.2).fp k) :
    Ret Tryz.prog 36 #[.pointer (some ⟨b,0,none⟩),vo,.int .i64 (u:Int)] w0 (G:=Value) (fun _=>.tuple #[]) (fun v w=>St w0 w (fun k=>(srA b vl vb (ofN z.1) z.2.1 z.2.2).fp k) [] [srA b vl v (ofN (srch l (n+1) p u z).1) (srch l (n+1) p u z).2.1 (srch l (n+1) p u z).2.2]):=by
  refine aX (lv:=[.pointer (some ⟨b,0,none⟩),vo,.int .i64 (u:Int)]) Tryz.func36 rfl rfl rfl (fun a hf=>?_)
  replace hf:Fr a 96 [] [(0,.pointer (some ⟨b,0,none⟩)),(1,vo),(2,.int .i64 (u:Int))]:=hf
  have hS:St w0 w0 (fun k=>(srA b vl vb (ofN z.1) z.2.1 z.2.2).fp k) [rdE 4 E40 vl l,rdE 1 E3 vo (ofN p)] [pt b (.cells #[vl,vb,.int .i64 z.2.1,.int .i64 z.2.2] 88 (0,0)),sl 3 1 vb ((ofN z.1).length) (ints (ofN z.1))]:=by
    have h:=St.zZ (N:=[]) (l:=[pt b (.cells #[vl,vb,.int .i64 z.2.1,.int .i64 z.2.2] 88 (0,0)),sl 3 1 vb ((ofN z.1).length) (ints (ofN z.1))]) (M:=[]) (St.aGN (A:=srA b vl vb (ofN z.1) z.2.1 z.2.2) h0 (aD (aY hlv) (aD (aY ho) aL)) (kF al (kF ao nW)))
    exact h
  have hends:oK 8589934592 l (ofN p)=some (r.1,r.2.1,true):=by rw [wO 8589934592 (by omega) l ok p (by omega) hpr,hg]
  have hval:=aCE 8589934592 (by omega) l ok p (by omega) E0 r hg
  have hopl:=tq p
  refine W.seq ?_
  refine W.aU (l:=[0,1,2,3,4,5,6,7,8,9,10,11,12]) rfl ?_
  refine O.val hf rfl rfl rfl (aA.move rfl) ?_
  clear hf a; intro a hf
  refine O.val hf rfl rfl rfl (aA.nilCheck rfl) ?_
  clear hf a; intro a hf
  refine O.val hf rfl rfl rfl (aA.field tZ rfl rfl) ?_
  clear hf a; intro a hf
  refine O.val hf rfl rfl rfl (aA.aR sD rfl (hS.wG (i:=0) rfl) rfl) ?_
  clear hf a; intro a hf
  refine O.val hf rfl rfl rfl (aA.move rfl) ?_
  clear hf a; intro a hf
  refine O.wY hf rfl rfl rfl (tY.call (av:=#[vl,vo]) zb rfl rfl rfl) (qm 8589934592 vl l vo (ofN p) _ (hS.rdB (j:=0) rfl) (hS.rdB (j:=1) rfl) (r.1,r.2.1,true) hends) ?_
  clear hf a
  rintro vx w1 hS1 a hf
  replace hf:Fr a _ _ ((17,.tuple #[vx,.int .i64 r.2.1,.bool true])::_):=hf
  replace hS:=(hS.call hS1).eqM (N:=[slE 85 2 E85 vx r.1,pt b (.cells #[vl,vb,.int .i64 z.2.1,.int .i64 z.2.2] 88 (0,0)),sl 3 1 vb ((ofN z.1).length) (ints (ofN z.1))]) rfl
  clear hS1
  refine O.val hf rfl rfl rfl (aA.move rfl) ?_
  clear hf a; intro a hf
  refine O.val hf rfl rfl rfl (aA.extract rfl rfl) ?_
  clear hf a; intro a hf
  refine O.val hf rfl rfl rfl (aA.extract rfl rfl) ?_
  clear hf a; intro a hf
  refine O.val hf rfl rfl rfl (aA.extract rfl rfl) ?_
  clear hf a; intro a hf
  refine O.val hf rfl rfl rfl (aA.assign rfl) ?_
  clear hf a; intro a hf
  refine O.val hf rfl rfl rfl (aA.assign rfl) ?_
  clear hf a; intro a hf
  refine O.val hf rfl rfl rfl (aA.assign rfl) ?_
  clear hf a; intro a hf
  refine O.nil ?_
  refine aP ?_
  replace hf:Fr a 96 [] [(0,.pointer (some ⟨b,0,none⟩)),(1,vo),(2,.int .i64 (u:Int)),(7,.int .i64 r.2.1),(8,.bool true)]:=hf.to ⟨rfl,rfl,rfl,rfl,rfl,trivial⟩
  refine W.seq ?_
  refine W.seq ?_
  refine W.aU (l:=[0,1]) rfl ?_
  refine O.val hf rfl rfl rfl (aA.move rfl) ?_
  clear hf a; intro a hf
  refine O.val (v:=.bool false) hf rfl rfl rfl (aA.not (b:=true) rfl) ?_
  clear hf a; intro a hf
  refine O.nil ?_
  refine aP ?_
  replace hf:Fr a 96 [] [(0,.pointer (some ⟨b,0,none⟩)),(1,vo),(2,.int .i64 (u:Int)),(7,.int .i64 r.2.1),(22,.bool false)]:=hf.to ⟨rfl,rfl,rfl,rfl,rfl,trivial⟩
  refine W.xX hf rfl ?_
  refine W.skip ?_
  refine aP ?_
  replace hf:Fr a 96 [] [(0,.pointer (some ⟨b,0,none⟩)),(1,vo),(2,.int .i64 (u:Int)),(7,.int .i64 r.2.1)]:=hf.to ⟨rfl,rfl,rfl,rfl,trivial⟩
  refine W.seq ?_
  refine W.aU (l:=[0,1,2,3,4,5,6]) rfl ?_
  refine O.val hf rfl rfl rfl (aA.move rfl) ?_
  clear hf a; intro a hf
  refine O.val hf rfl rfl rfl (aA.nilCheck rfl) ?_
  clear hf a; intro a hf
  refine O.val hf rfl rfl rfl (aA.field tZ rfl rfl) ?_
  clear hf a; intro a hf
  refine O.val hf rfl rfl rfl (aA.aR sD rfl (hS.wG (i:=1) rfl) rfl) ?_
  clear hf a; intro a hf
  refine O.val hf rfl rfl rfl (aA.move rfl) ?_
  clear hf a; intro a hf
  refine O.wY hf rfl rfl rfl (tY.call (av:=#[vl,vo]) aFF rfl rfl rfl) (yg 8589934592 vl l vo (ofN p) _ (hS.rdB (j:=0) rfl) (hS.rdB (j:=1) rfl) r.2.2 hval) ?_
  clear hf a
  rintro _ w2 hS1 a hf
  replace hf:Fr a _ _ ((28,.int .i64 r.2.2)::_):=hf
  replace hS:=(hS.call hS1).eqM (N:=[slE 85 2 E85 vx r.1,pt b (.cells #[vl,vb,.int .i64 z.2.1,.int .i64 z.2.2] 88 (0,0)),sl 3 1 vb ((ofN z.1).length) (ints (ofN z.1))]) rfl
  clear hS1
  refine O.val hf rfl rfl rfl (aA.assign rfl) ?_
  clear hf a; intro a hf
  refine O.nil ?_
  refine aP ?_
  replace hf:Fr a 96 [] [(0,.pointer (some ⟨b,0,none⟩)),(1,vo),(2,.int .i64 (u:Int)),(7,.int .i64 r.2.1),(9,.int .i64 r.2.2)]:=hf.to ⟨rfl,rfl,rfl,rfl,rfl,trivial⟩
  refine W.seq ?_
  refine W.seq ?_
  refine W.aU (l:=[0,1,2,3,4,5,6,7,8,9,10,11,12,13,14,15,16,17,18,19,20,21,22,23,24,25,26]) rfl ?_
  refine O.val hf rfl rfl rfl (aA.move rfl) ?_
  clear hf a; intro a hf
  refine O.val hf rfl rfl rfl (aA.move rfl) ?_
  clear hf a; intro a hf
  refine O.val hf rfl rfl rfl (aA.nilCheck rfl) ?_
  clear hf a; intro a hf
  refine O.val hf rfl rfl rfl (aA.field uE rfl rfl) ?_
  clear hf a; intro a hf
  refine O.val hf rfl rfl rfl (aA.aR cu rfl (hS.wG (i:=1) rfl) rfl) ?_
  clear hf a; intro a hf
  refine O.val (v:=.bool (decide (r.2.2>(z.2.1:Int)))) hf rfl rfl rfl (aA.gtr rfl rfl) ?_
  clear hf a; intro a hf
  refine O.val hf rfl rfl rfl (aA.move rfl) ?_
  clear hf a; intro a hf
  refine O.fH (l₁:=[7,8,9,10,11,12,13,14,15,16,17,18,19,20,21,22,23,24,25,26]) (l₂:=_) (fun a w=>Fr a 96 [] [(0,.pointer (some ⟨b,0,none⟩)),(1,vo),(2,.int .i64 (u:Int)),(7,.int .i64 r.2.1),(9,.int .i64 r.2.2),(55,.bool ((decide (r.2.2>(z.2.1:Int)))||(((decide (r.2.2=(z.2.1:Int)))&&(decide ((p.length:Int)>(0:Int))))&&(decide (r.2.1<(z.2.2:Int))))))]∧St w0 w (fun k=>(srA b vl vb (ofN z.1) z.2.1 z.2.2).fp k) [rdE 4 E40 vl l,rdE 1 E3 vo (ofN p)] [slE 85 2 E85 vx r.1,pt b (.cells #[vl,vb,.int .i64 z.2.1,.int .i64 z.2.2] 88 (0,0)),sl 3 1 vb ((ofN z.1).length) (ints (ofN z.1))]) rfl ?_ ?_
  · rcases Bool.eq_false_or_eq_true (decide (r.2.2>(z.2.1:Int))) with hb3 | hb3
    · have hb3p:=of_decide_eq_true hb3
      refine O.gY hf rfl rfl rfl hb3 rfl ?_; clear hf a; intro a hf
      refine O.gY hf rfl rfl rfl hb3 rfl ?_; clear hf a; intro a hf
      refine O.gY hf rfl rfl rfl hb3 rfl ?_; clear hf a; intro a hf
      refine O.gY hf rfl rfl rfl hb3 rfl ?_; clear hf a; intro a hf
      refine O.gY hf rfl rfl rfl hb3 rfl ?_; clear hf a; intro a hf
      refine O.gY hf rfl rfl rfl hb3 rfl ?_; clear hf a; intro a hf
      refine O.gY hf rfl rfl rfl hb3 rfl ?_; clear hf a; intro a hf
      refine O.dN hf rfl rfl rfl rfl ?_; clear hf a; intro a hf
      refine O.dN hf rfl rfl rfl rfl ?_; clear hf a; intro a hf
      refine O.dN hf rfl rfl rfl rfl ?_; clear hf a; intro a hf
      refine O.gY hf rfl rfl rfl hb3 rfl ?_; clear hf a; intro a hf
      refine O.gY hf rfl rfl rfl hb3 rfl ?_; clear hf a; intro a hf
      refine O.dN hf rfl rfl rfl rfl ?_; clear hf a; intro a hf
      refine O.dN hf rfl rfl rfl rfl ?_; clear hf a; intro a hf
      refine O.dN hf rfl rfl rfl rfl ?_; clear hf a; intro a hf
      refine O.dN hf rfl rfl rfl rfl ?_; clear hf a; intro a hf
      refine O.dN hf rfl rfl rfl rfl ?_; clear hf a; intro a hf
      refine O.dN hf rfl rfl rfl rfl ?_; clear hf a; intro a hf
      refine O.gY hf rfl rfl rfl hb3 rfl ?_; clear hf a; intro a hf
      refine O.val (v:=.bool ((decide (r.2.2>(z.2.1:Int)))||(((decide (r.2.2=(z.2.1:Int)))&&(decide ((p.length:Int)>(0:Int))))&&(decide (r.2.1<(z.2.2:Int)))))) hf rfl rfl rfl (aA.pick rfl rfl rfl (by rw [hb3]; rfl)) ?_; clear hf a; intro a hf
      exact O.nil ⟨rfl,hf.to ⟨rfl,rfl,rfl,rfl,rfl,rfl,trivial⟩,hS⟩
    · have hb3p:=of_decide_eq_false hb3
      refine O.qW (v:=.int .i64 r.2.2) hf rfl rfl rfl hb3 rfl rfl (aA.move rfl) ?_
      clear hf a; intro a hf
      refine O.qW (v:=.pointer (some ⟨b,0,none⟩)) hf rfl rfl rfl hb3 rfl rfl (aA.move rfl) ?_
      clear hf a; intro a hf
      refine O.qW (v:=.pointer (some ⟨b,0,none⟩)) hf rfl rfl rfl hb3 rfl rfl (aA.nilCheck rfl) ?_
      clear hf a; intro a hf
      refine O.qW (v:=.pointer (some ⟨b,2,none⟩)) hf rfl rfl rfl hb3 rfl rfl (aA.field uE rfl rfl) ?_
      clear hf a; intro a hf
      refine O.qW (v:=.int .i64 z.2.1) hf rfl rfl rfl hb3 rfl rfl (aA.aR cu rfl (hS.wG (i:=1) rfl) rfl) ?_
      clear hf a; intro a hf
      refine O.qW (v:=.bool (decide (r.2.2=(z.2.1:Int)))) hf rfl rfl rfl hb3 rfl rfl (aA.eql rfl rfl) ?_
      clear hf a; intro a hf
      refine O.qW (v:=.bool (decide (r.2.2=(z.2.1:Int)))) hf rfl rfl rfl hb3 rfl rfl (aA.move rfl) ?_
      clear hf a; intro a hf
      refine O.fH (l₁:=[14,15,16,17]) (l₂:=_) (fun a w=>Fr a 96 [] [(0,.pointer (some ⟨b,0,none⟩)),(1,vo),(2,.int .i64 (u:Int)),(7,.int .i64 r.2.1),(9,.int .i64 r.2.2),(35,.bool (decide (r.2.2>(z.2.1:Int)))),(46,.bool ((decide (r.2.2=(z.2.1:Int)))&&(decide ((p.length:Int)>(0:Int)))))]∧St w0 w (fun k=>(srA b vl vb (ofN z.1) z.2.1 z.2.2).fp k) [rdE 4 E40 vl l,rdE 1 E3 vo (ofN p)] [slE 85 2 E85 vx r.1,pt b (.cells #[vl,vb,.int .i64 z.2.1,.int .i64 z.2.2] 88 (0,0)),sl 3 1 vb ((ofN z.1).length) (ints (ofN z.1))]) rfl ?_ ?_
      · rcases Bool.eq_false_or_eq_true (decide (r.2.2=(z.2.1:Int))) with hb4 | hb4
        · have hb4p:=of_decide_eq_true hb4
          refine O.qW (v:=vo) hf rfl rfl rfl hb4 rfl rfl (aA.move rfl) ?_
          clear hf a; intro a hf
          refine O.qW (v:=.int .i64 ((ofN p).length:Int)) hf rfl rfl rfl hb4 rfl rfl (aA.aGd (e:=3) (by simpa using bJ) rfl (zx (hS.rdB (j:=1) rfl))) ?_
          clear hf a; intro a hf
          refine O.qW (v:=.bool (decide ((p.length:Int)>(0:Int)))) hf rfl rfl rfl hb4 rfl rfl (aA.toB (aA.gtr rfl rfl) (by rw [tq])) ?_
          clear hf a; intro a hf
          refine O.qW (v:=.bool ((decide (r.2.2=(z.2.1:Int)))&&(decide ((p.length:Int)>(0:Int))))) hf rfl rfl rfl hb3 rfl rfl (aA.pick rfl rfl rfl (by rw [hb4]; rfl)) ?_; clear hf a; intro a hf
          exact O.nil ⟨rfl,hf.to ⟨rfl,rfl,rfl,rfl,rfl,rfl,rfl,trivial⟩,hS⟩
        · have hb4p:=of_decide_eq_false hb4
          refine O.gY hf rfl rfl rfl hb4 rfl ?_; clear hf a; intro a hf
          refine O.gY hf rfl rfl rfl hb4 rfl ?_; clear hf a; intro a hf
          refine O.gY hf rfl rfl rfl hb4 rfl ?_; clear hf a; intro a hf
          refine O.qW (v:=.bool ((decide (r.2.2=(z.2.1:Int)))&&(decide ((p.length:Int)>(0:Int))))) hf rfl rfl rfl hb3 rfl rfl (aA.pick rfl rfl rfl (by rw [hb4]; rfl)) ?_; clear hf a; intro a hf
          exact O.nil ⟨rfl,hf.to ⟨rfl,rfl,rfl,rfl,rfl,rfl,rfl,trivial⟩,hS⟩
      clear hf hS a; rintro a w ⟨hf,hS⟩
      refine O.qW (v:=.bool ((decide (r.2.2=(z.2.1:Int)))&&(decide ((p.length:Int)>(0:Int))))) hf rfl rfl rfl hb3 rfl rfl (aA.move rfl) ?_
      clear hf a; intro a hf
      refine O.fH (l₁:=[19,20,21,22,23,24,25]) (l₂:=_) (fun a w=>Fr a 96 [] [(0,.pointer (some ⟨b,0,none⟩)),(1,vo),(2,.int .i64 (u:Int)),(7,.int .i64 r.2.1),(9,.int .i64 r.2.2),(35,.bool (decide (r.2.2>(z.2.1:Int)))),(54,.bool (((decide (r.2.2=(z.2.1:Int)))&&(decide ((p.length:Int)>(0:Int))))&&(decide (r.2.1<(z.2.2:Int)))))]∧St w0 w (fun k=>(srA b vl vb (ofN z.1) z.2.1 z.2.2).fp k) [rdE 4 E40 vl l,rdE 1 E3 vo (ofN p)] [slE 85 2 E85 vx r.1,pt b (.cells #[vl,vb,.int .i64 z.2.1,.int .i64 z.2.2] 88 (0,0)),sl 3 1 vb ((ofN z.1).length) (ints (ofN z.1))]) rfl ?_ ?_
      · rcases Bool.eq_false_or_eq_true ((decide (r.2.2=(z.2.1:Int)))&&(decide ((p.length:Int)>(0:Int)))) with hb5 | hb5
        · have hb5p:=hb5
          try simp only [Bool.and_eq_true,Bool.or_eq_true,Bool.and_eq_false_iff,Bool.or_eq_false_iff,decide_eq_true_eq,decide_eq_false_iff_not,Bool.not_eq_true',Bool.not_eq_false',Bool.not_eq_true,Bool.not_eq_false,ne_eq] at hb5p
          refine O.qW (v:=.int .i64 r.2.1) hf rfl rfl rfl hb5 rfl rfl (aA.move rfl) ?_
          clear hf a; intro a hf
          refine O.qW (v:=.pointer (some ⟨b,0,none⟩)) hf rfl rfl rfl hb5 rfl rfl (aA.move rfl) ?_
          clear hf a; intro a hf
          refine O.qW (v:=.pointer (some ⟨b,0,none⟩)) hf rfl rfl rfl hb5 rfl rfl (aA.nilCheck rfl) ?_
          clear hf a; intro a hf
          refine O.qW (v:=.pointer (some ⟨b,3,none⟩)) hf rfl rfl rfl hb5 rfl rfl (aA.field xU rfl rfl) ?_
          clear hf a; intro a hf
          refine O.qW (v:=.int .i64 z.2.2) hf rfl rfl rfl hb5 rfl rfl (aA.aR dS rfl (hS.wG (i:=1) rfl) rfl) ?_
          clear hf a; intro a hf
          refine O.qW (v:=.bool (decide (r.2.1<(z.2.2:Int)))) hf rfl rfl rfl hb5 rfl rfl (aA.lss rfl rfl) ?_
          clear hf a; intro a hf
          refine O.qW (v:=.bool (((decide (r.2.2=(z.2.1:Int)))&&(decide ((p.length:Int)>(0:Int))))&&(decide (r.2.1<(z.2.2:Int))))) hf rfl rfl rfl hb3 rfl rfl (aA.pick rfl rfl rfl (by rw [hb5]; rfl)) ?_; clear hf a; intro a hf
          exact O.nil ⟨rfl,hf.to ⟨rfl,rfl,rfl,rfl,rfl,rfl,rfl,trivial⟩,hS⟩
        · have hb5p:=hb5
          try simp only [Bool.and_eq_true,Bool.or_eq_true,Bool.and_eq_false_iff,Bool.or_eq_false_iff,decide_eq_true_eq,decide_eq_false_iff_not,Bool.not_eq_true',Bool.not_eq_false',Bool.not_eq_true,Bool.not_eq_false,ne_eq] at hb5p
          refine O.gY hf rfl rfl rfl hb5 rfl ?_; clear hf a; intro a hf
          refine O.gY hf rfl rfl rfl hb5 rfl ?_; clear hf a; intro a hf
          refine O.gY hf rfl rfl rfl hb5 rfl ?_; clear hf a; intro a hf
          refine O.gY hf rfl rfl rfl hb5 rfl ?_; clear hf a; intro a hf
          refine O.gY hf rfl rfl rfl hb5 rfl ?_; clear hf a; intro a hf
          refine O.gY hf rfl rfl rfl hb5 rfl ?_; clear hf a; intro a hf
          refine O.qW (v:=.bool (((decide (r.2.2=(z.2.1:Int)))&&(decide ((p.length:Int)>(0:Int))))&&(decide (r.2.1<(z.2.2:Int))))) hf rfl rfl rfl hb3 rfl rfl (aA.pick rfl rfl rfl (by rw [hb5]; rfl)) ?_; clear hf a; intro a hf
          exact O.nil ⟨rfl,hf.to ⟨rfl,rfl,rfl,rfl,rfl,rfl,rfl,trivial⟩,hS⟩
      clear hf hS a; rintro a w ⟨hf,hS⟩
      refine O.val (v:=.bool ((decide (r.2.2>(z.2.1:Int)))||(((decide (r.2.2=(z.2.1:Int)))&&(decide ((p.length:Int)>(0:Int))))&&(decide (r.2.1<(z.2.2:Int)))))) hf rfl rfl rfl (aA.pick rfl rfl rfl (by rw [hb3]; rfl)) ?_; clear hf a; intro a hf
      exact O.nil ⟨rfl,hf.to ⟨rfl,rfl,rfl,rfl,rfl,rfl,trivial⟩,hS⟩
  clear hf hS a; rintro a w ⟨hf,hS⟩
  refine O.nil ?_
  refine aP ?_
  refine W.aGl (fun a w=>∃ g_:(Value) × (SSt),match g_ with | (vb1,s1)=>Fr a 96 [] [(0,.pointer (some ⟨b,0,none⟩)),(1,vo),(2,.int .i64 (u:Int))]∧St w0 w (fun k=>(srA b vl vb (ofN z.1) z.2.1 z.2.2).fp k) [rdE 4 E40 vl l,rdE 1 E3 vo (ofN p)] [slE 85 2 E85 vx r.1,pt b (.cells #[vl,vb1,.int .i64 s1.2.1,.int .i64 s1.2.2] 88 (0,0)),sl 3 1 vb1 ((ofN s1.1).length) (ints (ofN s1.1))]∧(s1=vY z p r.2.2 r.2.1)) ?_ ?_
  · refine W.if_ hf rfl (fun hup=>?_) (fun hup=>?_)
    · have hupb:=hup
      try simp only [Bool.and_eq_true,Bool.or_eq_true,Bool.and_eq_false_iff,Bool.or_eq_false_iff,decide_eq_true_eq,decide_eq_false_iff_not,Bool.not_eq_true',Bool.not_eq_false',Bool.not_eq_true,Bool.not_eq_false,ne_eq] at hup
      refine W.aU (l:=[0,1,2,3,4,5,6,7,8,9,10,11,12,13,14,15,16]) rfl ?_
      refine O.val hf rfl rfl rfl (aA.move rfl) ?_
      clear hf a; intro a hf
      refine O.val hf rfl rfl rfl (aA.move rfl) ?_
      clear hf a; intro a hf
      refine O.val hf rfl rfl rfl (aA.move rfl) ?_
      clear hf a; intro a hf
      refine O.rE hf hS rfl rfl bJ dG rfl ?_
      clear hf hS a; intro b_s7 w a hbb_s7 hS hf
      replace hS:St w0 w (fun k=>(srA b vl vb (ofN z.1) z.2.1 z.2.2).fp k) [rdE 4 E40 vl l,rdE 1 E3 vo (ofN p)] [sl 3 1 (.slice (some ⟨b_s7,0,none⟩) 0 0) (([]:List Int).length) (ints []),slE 85 2 E85 vx r.1,pt b (.cells #[vl,vb,.int .i64 z.2.1,.int .i64 z.2.2] 88 (0,0)),sl 3 1 vb ((ofN z.1).length) (ints (ofN z.1))]:=hS
      refine O.val hf rfl rfl rfl (aA.move rfl) ?_
      clear hf a; intro a hf
      refine O.aA9 (j:=0) hf hS rfl rfl bJ dG wM rz rfl rfl rfl rfl rfl (zx (hS.rdB (j:=1) rfl)) (wW _) (by unfold maxLen; simp only [List.length_nil]; omega) (by simp only [List.length_nil]; omega) ?_
      clear hf hS a; intro v8 w a hS hf
      replace hS:=hS.eqM (N:=[sl 3 1 v8 (([]:List Int).length+(ofN p).length) (ints []++ints (ofN p)),slE 85 2 E85 vx r.1,pt b (.cells #[vl,vb,.int .i64 z.2.1,.int .i64 z.2.2] 88 (0,0)),sl 3 1 vb ((ofN z.1).length) (ints (ofN z.1))]) rfl
      replace hS:=hS.eqM (N:=[sl 3 1 v8 ((ofN p).length) (ints (ofN p)),slE 85 2 E85 vx r.1,pt b (.cells #[vl,vb,.int .i64 z.2.1,.int .i64 z.2.2] 88 (0,0)),sl 3 1 vb ((ofN z.1).length) (ints (ofN z.1))]) (by simp only [aAH,List.length_append,List.length_nil,Nat.zero_add,List.nil_append,ints,List.map_nil])
      refine O.val hf rfl rfl rfl (aA.move rfl) ?_
      clear hf a; intro a hf
      refine O.val hf rfl rfl rfl (aA.move rfl) ?_
      clear hf a; intro a hf
      refine O.val hf rfl rfl rfl (aA.nilCheck rfl) ?_
      clear hf a; intro a hf
      refine O.val hf rfl rfl rfl (aA.field yI rfl rfl) ?_
      clear hf a; intro a hf
      have hcl9:=sI.cells (hS.slr (j:=0) rfl)
      refine O.store (m:=1) (j:=2) (cs':=#[vl,v8,.int .i64 z.2.1,.int .i64 z.2.2]) (M':=[sl 3 1 v8 ((ofN p).length) (ints (ofN p)),slE 85 2 E85 vx r.1,pt b (.cells #[vl,v8,.int .i64 z.2.1,.int .i64 z.2.2] 88 (0,0)),sl 3 1 vb ((ofN z.1).length) (ints (ofN z.1))]) hf hS rfl rfl rfl aDg (by rw [hcl9.1]; rfl) (by rw [hcl9.1]; exact hcl9.2) rfl (Nat.le_of_ble_eq_true rfl) (by rw [hcl9.1]; rfl) rfl ?_
      clear hS; intro w hS
      refine O.val hf rfl rfl rfl (aA.nilCheck rfl) ?_
      clear hf a; intro a hf
      refine O.val hf rfl rfl rfl (aA.field uE rfl rfl) ?_
      clear hf a; intro a hf
      refine O.store (j:=2) (cs':=#[vl,v8,.int .i64 r.2.2,.int .i64 z.2.2]) (M':=[sl 3 1 v8 ((ofN p).length) (ints (ofN p)),slE 85 2 E85 vx r.1,pt b (.cells #[vl,v8,.int .i64 r.2.2,.int .i64 z.2.2] 88 (0,0)),sl 3 1 vb ((ofN z.1).length) (ints (ofN z.1))]) hf hS rfl rfl rfl dG rfl rfl rfl (Nat.le_of_ble_eq_true rfl) rfl rfl ?_
      clear hS; intro w hS
      refine O.val hf rfl rfl rfl (aA.nilCheck rfl) ?_
      clear hf a; intro a hf
      refine O.val hf rfl rfl rfl (aA.field xU rfl rfl) ?_
      clear hf a; intro a hf
      refine O.store (j:=2) (cs':=#[vl,v8,.int .i64 r.2.2,.int .i64 r.2.1]) (M':=[sl 3 1 v8 ((ofN p).length) (ints (ofN p)),slE 85 2 E85 vx r.1,pt b (.cells #[vl,v8,.int .i64 r.2.2,.int .i64 r.2.1] 88 (0,0)),sl 3 1 vb ((ofN z.1).length) (ints (ofN z.1))]) hf hS rfl rfl rfl aBo rfl rfl rfl (Nat.le_of_ble_eq_true rfl) rfl rfl ?_
      clear hS; intro w hS
      refine O.nil ?_
      replace hS:=hS.front (i:=0) (M':=[sl 3 1 v8 ((ofN p).length) (ints (ofN p)),slE 85 2 E85 vx r.1,pt b (.cells #[vl,v8,.int .i64 r.2.2,.int .i64 r.2.1] 88 (0,0)),sl 3 1 vb ((ofN z.1).length) (ints (ofN z.1))]) rfl rfl
      replace hS:=hS.front (i:=2) (M':=[pt b (.cells #[vl,v8,.int .i64 r.2.2,.int .i64 r.2.1] 88 (0,0)),sl 3 1 v8 ((ofN p).length) (ints (ofN p)),slE 85 2 E85 vx r.1,sl 3 1 vb ((ofN z.1).length) (ints (ofN z.1))]) rfl rfl
      replace hS:=hS.front (i:=2) (M':=[slE 85 2 E85 vx r.1,pt b (.cells #[vl,v8,.int .i64 r.2.2,.int .i64 r.2.1] 88 (0,0)),sl 3 1 v8 ((ofN p).length) (ints (ofN p)),sl 3 1 vb ((ofN z.1).length) (ints (ofN z.1))]) rfl rfl
      replace hS:=hS.sub (N:=[slE 85 2 E85 vx r.1,pt b (.cells #[vl,v8,.int .i64 r.2.2,.int .i64 r.2.1] 88 (0,0)),sl 3 1 v8 ((ofN p).length) (ints (ofN p))]) (.cons_cons _ (.cons_cons _ (.cons_cons _ (.cons _ .slnil))))
      refine ⟨(v8,(p,r.2.2,r.2.1)),hf.to ⟨rfl,rfl,rfl,trivial⟩,hS.eqM rfl,?_⟩
      · exact (aFG hup).symm
    · have hupb:=hup
      try simp only [Bool.and_eq_true,Bool.or_eq_true,Bool.and_eq_false_iff,Bool.or_eq_false_iff,decide_eq_true_eq,decide_eq_false_iff_not,Bool.not_eq_true',Bool.not_eq_false',Bool.not_eq_true,Bool.not_eq_false,ne_eq] at hup
      refine W.skip ?_
      refine ⟨(vb,z),hf.to ⟨rfl,rfl,rfl,trivial⟩,hS.eqM rfl,?_⟩
      · exact (aGP hup).symm
  clear hf hS a
  rintro a w ⟨⟨vb1,s1⟩,hf,hS,hs1⟩
  refine W.seq ?_
  refine W.aU (l:=[0]) rfl ?_
  refine O.val hf rfl rfl rfl (aA.assign rfl) ?_
  clear hf a; intro a hf
  refine O.nil ?_
  refine aP ?_
  refine W.block ?_
  refine W.loop (G:=(Nat) × (Value) × (SSt)) (fun g a w=>match g with | (i,vb1,s1)=>Fr a 96 [] [(0,.pointer (some ⟨b,0,none⟩)),(1,vo),(2,.int .i64 (u:Int)),(10,.int .i64 (i:Int))]∧St w0 w (fun k=>(srA b vl vb (ofN z.1) z.2.1 z.2.2).fp k) [rdE 4 E40 vl l,rdE 1 E3 vo (ofN p)] [slE 85 2 E85 vx r.1,pt b (.cells #[vl,vb1,.int .i64 s1.2.1,.int .i64 s1.2.2] 88 (0,0)),sl 3 1 vb1 ((ofN s1.1).length) (ints (ofN s1.1))]∧(i≤l.length)∧(s1=(List.range i).foldl (aC8 l n p u) (vY z p r.2.2 r.2.1))) (fun g=>match g with | (i,vb1,s1)=>l.length-i) (0,vb1,s1) ?_ ?_
  · refine ⟨hf.to ⟨rfl,rfl,rfl,(by first | rfl | exact congrArg some (congrArg (Value.int _) (by omega))),trivial⟩,hS,?_,?_⟩
    · omega
    · exact hs1
  clear hf hS a
  rintro ⟨i,vb1,s1⟩ a w ⟨hf,hS,g1,g2⟩
  refine W.seq ?_
  refine W.seq ?_
  refine W.aU (l:=[0,1,2,3,4,5,6]) rfl ?_
  refine O.val hf rfl rfl rfl (aA.move rfl) ?_
  clear hf a; intro a hf
  refine O.val hf rfl rfl rfl (aA.move rfl) ?_
  clear hf a; intro a hf
  refine O.val hf rfl rfl rfl (aA.nilCheck rfl) ?_
  clear hf a; intro a hf
  refine O.val hf rfl rfl rfl (aA.field tZ rfl rfl) ?_
  clear hf a; intro a hf
  refine O.val hf rfl rfl rfl (aA.aR sD rfl (hS.wG (i:=1) rfl) rfl) ?_
  clear hf a; intro a hf
  refine O.val hf rfl rfl rfl (aA.aGd (e:=40) (by simpa using fB) rfl (hS.rdB (j:=0) rfl).1) ?_
  clear hf a; intro a hf
  refine O.val (v:=.bool (decide ((i:Int)<((l.length:Int):Int)))) hf rfl rfl rfl (aA.lss rfl rfl) ?_
  clear hf a; intro a hf
  refine O.nil ?_
  refine aP ?_
  replace hf:Fr a 96 [] [(0,.pointer (some ⟨b,0,none⟩)),(1,vo),(2,.int .i64 (u:Int)),(10,.int .i64 (i:Int)),(76,.bool (decide ((i:Int)<((l.length:Int):Int))))]:=hf.to ⟨rfl,rfl,rfl,rfl,rfl,trivial⟩
  refine W.cK hf rfl (fun hi1=>?_) (fun hi1=>?_)
  · refine W.skip ?_
    refine aP ?_
    refine W.seq ?_
    refine W.block ?_
    refine W.seq ?_
    refine W.aU (l:=[0,1,2,3,4]) rfl ?_
    refine O.val hf rfl rfl rfl (aA.move rfl) ?_
    clear hf a; intro a hf
    refine O.val hf rfl rfl rfl (aA.move rfl) ?_
    clear hf a; intro a hf
    refine O.val hf rfl rfl rfl (aA.shr rfl rfl (by omega)) ?_
    clear hf a; intro a hf
    refine O.val hf rfl rfl rfl (aA.bitand rfl rfl) ?_
    clear hf a; intro a hf
    refine O.val (v:=.bool (decide ((bitand .i64 (Int.fdiv (u:Int) (2^(min (Int.toNat (i:Int)) (IntKind.bits .i64)))) 1)=(0:Int)))) hf rfl rfl rfl (aA.eql rfl rfl) ?_
    clear hf a; intro a hf
    refine O.nil ?_
    refine aP ?_
    replace hf:Fr a 96 [] [(0,.pointer (some ⟨b,0,none⟩)),(1,vo),(2,.int .i64 (u:Int)),(10,.int .i64 (i:Int)),(83,.bool (decide ((bitand .i64 (Int.fdiv (u:Int) (2^(min (Int.toNat (i:Int)) (IntKind.bits .i64)))) 1)=(0:Int))))]:=hf.to ⟨rfl,rfl,rfl,rfl,rfl,trivial⟩
    refine W.cK hf rfl (fun hbit=>?_) (fun hbit=>?_)
    · have hbm:=yH u i hu (by omega) ((zQ u i hu (by omega)).1 hbit)
      have hpi:∀ j ∈ p++[i],j<l.length:=fun j hj=>by
        rcases List.mem_append.1 hj with h | h
        · exact hpr j h
        · rw [List.mem_singleton.1 h]; omega
      replace hS:=hS.front (i:=2) (M':=[sl 3 1 vb1 ((ofN s1.1).length) (ints (ofN s1.1)),slE 85 2 E85 vx r.1,pt b (.cells #[vl,vb1,.int .i64 s1.2.1,.int .i64 s1.2.2] 88 (0,0))]) rfl rfl
      replace hS:=hS.front (i:=2) (M':=[pt b (.cells #[vl,vb1,.int .i64 s1.2.1,.int .i64 s1.2.2] 88 (0,0)),sl 3 1 vb1 ((ofN s1.1).length) (ints (ofN s1.1)),slE 85 2 E85 vx r.1]) rfl rfl
      replace hS:St w0 _ (fun k=>(srA b vl vb (ofN z.1) z.2.1 z.2.2).fp k) [rdE 4 E40 vl l,rdE 1 E3 vo (ofN p)] [srA b vl vb1 (ofN s1.1) s1.2.1 s1.2.2,slE 85 2 E85 vx r.1]:=St.xH (N:=[]) (l:=[pt b (.cells #[vl,vb1,.int .i64 s1.2.1,.int .i64 s1.2.2] 88 (0,0)),sl 3 1 vb1 ((ofN s1.1).length) (ints (ofN s1.1))]) (M:=[slE 85 2 E85 vx r.1]) hS
      have hf1:Fr a 96 [] []:=hf.to trivial
      replace hf:Fr a 96 [] [(0,.pointer (some ⟨b,0,none⟩)),(1,vo),(2,.int .i64 (u:Int)),(10,.int .i64 (i:Int))]:=hf.to ⟨rfl,rfl,rfl,rfl,trivial⟩
      replace hS:=hS.drew
      replace hS:=hS.emp
      refine W.aF7 (γ:=(Nat) × (Nat) × (Value) × (Value) × (Value)) (L0:=[(0,.pointer (some ⟨b,0,none⟩)),(1,vo),(2,.int .i64 (u:Int)),(10,.int .i64 (i:Int))]) (L1:=[]) (0,0,default,default,default) [1,3,6,11] [5] [0,2,4,7,8,9,10] (fun i=>match i with | 3=>[1,2] | 5=>[4] | 6=>[3,5] | 9=>[8] | 10=>[7,9] | 11=>[0,6,10] | _=>[]) (fun i=>match i with | 3=>[1] | 6=>[1,3,5] | 11=>[1,3,6,5] | _=>[]) (fun i=>match i with | 0=>[11] | 1=>[3,6,11] | 2=>[3,6,11] | 3=>[6,11] | 4=>[6,11] | 5=>[6,11] | 6=>[11] | 7=>[11] | 8=>[11] | 9=>[11] | 10=>[11] | _=>[]) (fun i=>match i with | 6=>[5] | 11=>[5] | _=>[]) (fun i=>match i with | 1=>[3,6,11] | 3=>[6,11] | 5=>[6,11] | 6=>[11] | _=>[]) (fun _=>[]) (fun i=>match i with | 3=>1 | 6=>2 | 11=>3 | _=>0) (fun i=>match i with | 0=>3 | 1=>1 | 2=>1 | 3=>2 | 4=>2 | 5=>2 | 6=>3 | 7=>3 | 8=>3 | 9=>3 | 10=>3 | 11=>4 | _=>0) (fun (g:(Nat) × (Nat) × (Value) × (Value) × (Value)) j=>match g,j with | ⟨b_s12,b_s13,v14,v15,vb2⟩,0=>.pointer (some ⟨b,0,none⟩) | ⟨b_s12,b_s13,v14,v15,vb2⟩,1=>.slice (some ⟨b_s13,0,none⟩) 0 0 | ⟨b_s12,b_s13,v14,v15,vb2⟩,2=>vo | ⟨b_s12,b_s13,v14,v15,vb2⟩,3=>v14 | ⟨b_s12,b_s13,v14,v15,vb2⟩,4=>.int .i64 (i:Int) | ⟨b_s12,b_s13,v14,v15,vb2⟩,5=>.slice (some ⟨b_s12,0,none⟩) 1 1 | ⟨b_s12,b_s13,v14,v15,vb2⟩,6=>v15 | ⟨b_s12,b_s13,v14,v15,vb2⟩,7=>.int .i64 (u:Int) | ⟨b_s12,b_s13,v14,v15,vb2⟩,8=>.int .i64 (i:Int) | ⟨b_s12,b_s13,v14,v15,vb2⟩,9=>.int .i64 (IntKind.i64.wrap (1*2^(min (Int.toNat (i:Int)) (IntKind.bits .i64)))) | ⟨b_s12,b_s13,v14,v15,vb2⟩,10=>.int .i64 (bitor .i64 (u:Int) (IntKind.i64.wrap (1*2^(min (Int.toNat (i:Int)) (IntKind.bits .i64))))) | ⟨b_s12,b_s13,v14,v15,vb2⟩,11=>.tuple #[] | _,_=>undef) (fun k s (g:(Nat) × (Nat) × (Value) × (Value) × (Value)) w=>match k,g with | 0,⟨b_s12,b_s13,v14,v15,vb2⟩=>St w0 w (fun k=>(srA b vl vb (ofN z.1) z.2.1 z.2.2).fp k) [rdE 4 E40 vl l,rdE 1 E3 vo (ofN p)] [dz (s 5) (pt b_s12 (.cells #[.int .i64 (i:Int)] 3 (0,0))),srA b vl vb1 (ofN s1.1) s1.2.1 s1.2.2,slE 85 2 E85 vx r.1] | 1,⟨b_s12,b_s13,v14,v15,vb2⟩=>St w0 w (fun k=>(srA b vl vb (ofN z.1) z.2.1 z.2.2).fp k) [rdE 4 E40 vl l,rdE 1 E3 vo (ofN p)] [sl 3 1 (.slice (some ⟨b_s13,0,none⟩) 0 0) (([]:List Int).length) (ints []),dz (s 5) (pt b_s12 (.cells #[.int .i64 (i:Int)] 3 (0,0))),srA b vl vb1 (ofN s1.1) s1.2.1 s1.2.2,slE 85 2 E85 vx r.1] | 2,⟨b_s12,b_s13,v14,v15,vb2⟩=>St w0 w (fun k=>(srA b vl vb (ofN z.1) z.2.1 z.2.2).fp k) [rdE 4 E40 vl l,rdE 1 E3 vo (ofN p)] [sl 3 1 v14 ((ofN p).length) (ints (ofN p)),dz (s 5) (pt b_s12 (.cells #[.int .i64 (i:Int)] 3 (0,0))),srA b vl vb1 (ofN s1.1) s1.2.1 s1.2.2,slE 85 2 E85 vx r.1] | 3,⟨b_s12,b_s13,v14,v15,vb2⟩=>St w0 w (fun k=>(srA b vl vb (ofN z.1) z.2.1 z.2.2).fp k) [rdE 4 E40 vl l,rdE 1 E3 vo (ofN p)] [sl 3 1 v15 (((ofN p)++[(i:Int)]).length) (ints ((ofN p)++[(i:Int)])),pt b_s12 (.cells #[.int .i64 (i:Int)] 3 (0,0)),srA b vl vb1 (ofN s1.1) s1.2.1 s1.2.2,slE 85 2 E85 vx r.1] | _,⟨b_s12,b_s13,v14,v15,vb2⟩=>St w0 w (fun k=>(srA b vl vb (ofN z.1) z.2.1 z.2.2).fp k) [rdE 4 E40 vl l,rdE 1 E3 vo (ofN p)] [srA b vl vb2 (ofN (srch l n (p++[i]) (u|||2^i) s1).1) (srch l n (p++[i]) (u|||2^i) s1).2.1 (srch l n (p++[i]) (u|||2^i) s1).2.2,sl 3 1 v15 (((ofN p)++[(i:Int)]).length) (ints ((ofN p)++[(i:Int)])),pt b_s12 (.cells #[.int .i64 (i:Int)] 3 (0,0)),slE 85 2 E85 vx r.1]) bq (by kernel_rfl) (by kernel_rfl) (by kernel_rfl) hf hf1 hS ?_ ?_ ?_ ?_
      · clear hf hf1 hS
        refine ⟨?_,?_,?_,?_,?_,?_,?_,trivial⟩
        · intro k s g w h1_ h2_ hsp hD a hf
          obtain ⟨b_s12,b_s13,v14,v15,vb2⟩:=g
          rcases k with _ | _ | _ | _ | k
          · have hS:St w0 w (fun k=>(srA b vl vb (ofN z.1) z.2.1 z.2.2).fp k) [rdE 4 E40 vl l,rdE 1 E3 vo (ofN p)] [dz (s 5) (pt b_s12 (.cells #[.int .i64 (i:Int)] 3 (0,0))),srA b vl vb1 (ofN s1.1) s1.2.1 s1.2.2,slE 85 2 E85 vx r.1]:=hD
            replace hf:Fr a 96 [] [(0,.pointer (some ⟨b,0,none⟩)),(1,vo),(2,.int .i64 (u:Int)),(10,.int .i64 (i:Int))]:=hf
            refine O.val hf rfl rfl rfl (aA.move rfl) ?_
            clear hf a; intro a hf
            exact O.nil ⟨rfl,hf.to trivial,(fun d hd=>by cases (show some 84=some d from hd); exact hf.get _ _ rfl),hD⟩
          · have hS:St w0 w (fun k=>(srA b vl vb (ofN z.1) z.2.1 z.2.2).fp k) [rdE 4 E40 vl l,rdE 1 E3 vo (ofN p)] [sl 3 1 (.slice (some ⟨b_s13,0,none⟩) 0 0) (([]:List Int).length) (ints []),dz (s 5) (pt b_s12 (.cells #[.int .i64 (i:Int)] 3 (0,0))),srA b vl vb1 (ofN s1.1) s1.2.1 s1.2.2,slE 85 2 E85 vx r.1]:=hD
            replace hf:Fr a 96 [] [(0,.pointer (some ⟨b,0,none⟩)),(1,vo),(2,.int .i64 (u:Int)),(10,.int .i64 (i:Int))]:=hf
            refine O.val hf rfl rfl rfl (aA.move rfl) ?_
            clear hf a; intro a hf
            exact O.nil ⟨rfl,hf.to trivial,(fun d hd=>by cases (show some 84=some d from hd); exact hf.get _ _ rfl),hD⟩
          · have hS:St w0 w (fun k=>(srA b vl vb (ofN z.1) z.2.1 z.2.2).fp k) [rdE 4 E40 vl l,rdE 1 E3 vo (ofN p)] [sl 3 1 v14 ((ofN p).length) (ints (ofN p)),dz (s 5) (pt b_s12 (.cells #[.int .i64 (i:Int)] 3 (0,0))),srA b vl vb1 (ofN s1.1) s1.2.1 s1.2.2,slE 85 2 E85 vx r.1]:=hD
            replace hf:Fr a 96 [] [(0,.pointer (some ⟨b,0,none⟩)),(1,vo),(2,.int .i64 (u:Int)),(10,.int .i64 (i:Int))]:=hf
            refine O.val hf rfl rfl rfl (aA.move rfl) ?_
            clear hf a; intro a hf
            exact O.nil ⟨rfl,hf.to trivial,(fun d hd=>by cases (show some 84=some d from hd); exact hf.get _ _ rfl),hD⟩
          · have hS:St w0 w (fun k=>(srA b vl vb (ofN z.1) z.2.1 z.2.2).fp k) [rdE 4 E40 vl l,rdE 1 E3 vo (ofN p)] [sl 3 1 v15 (((ofN p)++[(i:Int)]).length) (ints ((ofN p)++[(i:Int)])),pt b_s12 (.cells #[.int .i64 (i:Int)] 3 (0,0)),srA b vl vb1 (ofN s1.1) s1.2.1 s1.2.2,slE 85 2 E85 vx r.1]:=hD
            replace hf:Fr a 96 [] [(0,.pointer (some ⟨b,0,none⟩)),(1,vo),(2,.int .i64 (u:Int)),(10,.int .i64 (i:Int))]:=hf
            refine O.val hf rfl rfl rfl (aA.move rfl) ?_
            clear hf a; intro a hf
            exact O.nil ⟨rfl,hf.to trivial,(fun d hd=>by cases (show some 84=some d from hd); exact hf.get _ _ rfl),hD⟩
          · exact absurd h2_ (by simp)
        · intro k s g w h1_ h2_ hsp hD a hf
          obtain ⟨b_s12,b_s13,v14,v15,vb2⟩:=g
          rcases k with _ | _ | k
          · have hS:St w0 w (fun k=>(srA b vl vb (ofN z.1) z.2.1 z.2.2).fp k) [rdE 4 E40 vl l,rdE 1 E3 vo (ofN p)] [dz (s 5) (pt b_s12 (.cells #[.int .i64 (i:Int)] 3 (0,0))),srA b vl vb1 (ofN s1.1) s1.2.1 s1.2.2,slE 85 2 E85 vx r.1]:=hD
            replace hf:Fr a 96 [] [(0,.pointer (some ⟨b,0,none⟩)),(1,vo),(2,.int .i64 (u:Int)),(10,.int .i64 (i:Int))]:=hf
            refine O.val hf rfl rfl rfl (aA.move rfl) ?_
            clear hf a; intro a hf
            exact O.nil ⟨rfl,hf.to trivial,(fun d hd=>by cases (show some 86=some d from hd); exact hf.get _ _ rfl),hD⟩
          · have hS:St w0 w (fun k=>(srA b vl vb (ofN z.1) z.2.1 z.2.2).fp k) [rdE 4 E40 vl l,rdE 1 E3 vo (ofN p)] [sl 3 1 (.slice (some ⟨b_s13,0,none⟩) 0 0) (([]:List Int).length) (ints []),dz (s 5) (pt b_s12 (.cells #[.int .i64 (i:Int)] 3 (0,0))),srA b vl vb1 (ofN s1.1) s1.2.1 s1.2.2,slE 85 2 E85 vx r.1]:=hD
            replace hf:Fr a 96 [] [(0,.pointer (some ⟨b,0,none⟩)),(1,vo),(2,.int .i64 (u:Int)),(10,.int .i64 (i:Int))]:=hf
            refine O.val hf rfl rfl rfl (aA.move rfl) ?_
            clear hf a; intro a hf
            exact O.nil ⟨rfl,hf.to trivial,(fun d hd=>by cases (show some 86=some d from hd); exact hf.get _ _ rfl),hD⟩
          · exact absurd h2_ (by simp)
        · intro k s g w h1_ h2_ hsp hD a hf
          obtain ⟨b_s12,b_s13,v14,v15,vb2⟩:=g
          rcases k with _ | _ | _ | k
          · have hS:St w0 w (fun k=>(srA b vl vb (ofN z.1) z.2.1 z.2.2).fp k) [rdE 4 E40 vl l,rdE 1 E3 vo (ofN p)] [dz (s 5) (pt b_s12 (.cells #[.int .i64 (i:Int)] 3 (0,0))),srA b vl vb1 (ofN s1.1) s1.2.1 s1.2.2,slE 85 2 E85 vx r.1]:=hD
            replace hf:Fr a 96 [] [(0,.pointer (some ⟨b,0,none⟩)),(1,vo),(2,.int .i64 (u:Int)),(10,.int .i64 (i:Int))]:=hf
            refine O.val hf rfl rfl rfl (aA.move rfl) ?_
            clear hf a; intro a hf
            exact O.nil ⟨rfl,hf.to trivial,(fun d hd=>by cases (show some 88=some d from hd); exact hf.get _ _ rfl),hD⟩
          · have hS:St w0 w (fun k=>(srA b vl vb (ofN z.1) z.2.1 z.2.2).fp k) [rdE 4 E40 vl l,rdE 1 E3 vo (ofN p)] [sl 3 1 (.slice (some ⟨b_s13,0,none⟩) 0 0) (([]:List Int).length) (ints []),dz (s 5) (pt b_s12 (.cells #[.int .i64 (i:Int)] 3 (0,0))),srA b vl vb1 (ofN s1.1) s1.2.1 s1.2.2,slE 85 2 E85 vx r.1]:=hD
            replace hf:Fr a 96 [] [(0,.pointer (some ⟨b,0,none⟩)),(1,vo),(2,.int .i64 (u:Int)),(10,.int .i64 (i:Int))]:=hf
            refine O.val hf rfl rfl rfl (aA.move rfl) ?_
            clear hf a; intro a hf
            exact O.nil ⟨rfl,hf.to trivial,(fun d hd=>by cases (show some 88=some d from hd); exact hf.get _ _ rfl),hD⟩
          · have hS:St w0 w (fun k=>(srA b vl vb (ofN z.1) z.2.1 z.2.2).fp k) [rdE 4 E40 vl l,rdE 1 E3 vo (ofN p)] [sl 3 1 v14 ((ofN p).length) (ints (ofN p)),dz (s 5) (pt b_s12 (.cells #[.int .i64 (i:Int)] 3 (0,0))),srA b vl vb1 (ofN s1.1) s1.2.1 s1.2.2,slE 85 2 E85 vx r.1]:=hD
            replace hf:Fr a 96 [] [(0,.pointer (some ⟨b,0,none⟩)),(1,vo),(2,.int .i64 (u:Int)),(10,.int .i64 (i:Int))]:=hf
            refine O.val hf rfl rfl rfl (aA.move rfl) ?_
            clear hf a; intro a hf
            exact O.nil ⟨rfl,hf.to trivial,(fun d hd=>by cases (show some 88=some d from hd); exact hf.get _ _ rfl),hD⟩
          · exact absurd h2_ (by simp)
        · intro k s g w h1_ h2_ hsp hD a hf
          obtain ⟨b_s12,b_s13,v14,v15,vb2⟩:=g
          rcases k with _ | _ | _ | _ | k
          · have hS:St w0 w (fun k=>(srA b vl vb (ofN z.1) z.2.1 z.2.2).fp k) [rdE 4 E40 vl l,rdE 1 E3 vo (ofN p)] [dz (s 5) (pt b_s12 (.cells #[.int .i64 (i:Int)] 3 (0,0))),srA b vl vb1 (ofN s1.1) s1.2.1 s1.2.2,slE 85 2 E85 vx r.1]:=hD
            replace hf:Fr a 96 [] [(0,.pointer (some ⟨b,0,none⟩)),(1,vo),(2,.int .i64 (u:Int)),(10,.int .i64 (i:Int))]:=hf
            refine O.val hf rfl rfl rfl (aA.move rfl) ?_
            clear hf a; intro a hf
            exact O.nil ⟨rfl,hf.to trivial,(fun d hd=>by cases (show some 91=some d from hd); exact hf.get _ _ rfl),hD⟩
          · have hS:St w0 w (fun k=>(srA b vl vb (ofN z.1) z.2.1 z.2.2).fp k) [rdE 4 E40 vl l,rdE 1 E3 vo (ofN p)] [sl 3 1 (.slice (some ⟨b_s13,0,none⟩) 0 0) (([]:List Int).length) (ints []),dz (s 5) (pt b_s12 (.cells #[.int .i64 (i:Int)] 3 (0,0))),srA b vl vb1 (ofN s1.1) s1.2.1 s1.2.2,slE 85 2 E85 vx r.1]:=hD
            replace hf:Fr a 96 [] [(0,.pointer (some ⟨b,0,none⟩)),(1,vo),(2,.int .i64 (u:Int)),(10,.int .i64 (i:Int))]:=hf
            refine O.val hf rfl rfl rfl (aA.move rfl) ?_
            clear hf a; intro a hf
            exact O.nil ⟨rfl,hf.to trivial,(fun d hd=>by cases (show some 91=some d from hd); exact hf.get _ _ rfl),hD⟩
          · have hS:St w0 w (fun k=>(srA b vl vb (ofN z.1) z.2.1 z.2.2).fp k) [rdE 4 E40 vl l,rdE 1 E3 vo (ofN p)] [sl 3 1 v14 ((ofN p).length) (ints (ofN p)),dz (s 5) (pt b_s12 (.cells #[.int .i64 (i:Int)] 3 (0,0))),srA b vl vb1 (ofN s1.1) s1.2.1 s1.2.2,slE 85 2 E85 vx r.1]:=hD
            replace hf:Fr a 96 [] [(0,.pointer (some ⟨b,0,none⟩)),(1,vo),(2,.int .i64 (u:Int)),(10,.int .i64 (i:Int))]:=hf
            refine O.val hf rfl rfl rfl (aA.move rfl) ?_
            clear hf a; intro a hf
            exact O.nil ⟨rfl,hf.to trivial,(fun d hd=>by cases (show some 91=some d from hd); exact hf.get _ _ rfl),hD⟩
          · have hS:St w0 w (fun k=>(srA b vl vb (ofN z.1) z.2.1 z.2.2).fp k) [rdE 4 E40 vl l,rdE 1 E3 vo (ofN p)] [sl 3 1 v15 (((ofN p)++[(i:Int)]).length) (ints ((ofN p)++[(i:Int)])),pt b_s12 (.cells #[.int .i64 (i:Int)] 3 (0,0)),srA b vl vb1 (ofN s1.1) s1.2.1 s1.2.2,slE 85 2 E85 vx r.1]:=hD
            replace hf:Fr a 96 [] [(0,.pointer (some ⟨b,0,none⟩)),(1,vo),(2,.int .i64 (u:Int)),(10,.int .i64 (i:Int))]:=hf
            refine O.val hf rfl rfl rfl (aA.move rfl) ?_
            clear hf a; intro a hf
            exact O.nil ⟨rfl,hf.to trivial,(fun d hd=>by cases (show some 91=some d from hd); exact hf.get _ _ rfl),hD⟩
          · exact absurd h2_ (by simp)
        · intro k s g w h1_ h2_ hsp hD a hf
          obtain ⟨b_s12,b_s13,v14,v15,vb2⟩:=g
          rcases k with _ | _ | _ | _ | k
          · have hS:St w0 w (fun k=>(srA b vl vb (ofN z.1) z.2.1 z.2.2).fp k) [rdE 4 E40 vl l,rdE 1 E3 vo (ofN p)] [dz (s 5) (pt b_s12 (.cells #[.int .i64 (i:Int)] 3 (0,0))),srA b vl vb1 (ofN s1.1) s1.2.1 s1.2.2,slE 85 2 E85 vx r.1]:=hD
            replace hf:Fr a 96 [] [(0,.pointer (some ⟨b,0,none⟩)),(1,vo),(2,.int .i64 (u:Int)),(10,.int .i64 (i:Int))]:=hf
            refine O.val hf rfl rfl rfl (aA.move rfl) ?_
            clear hf a; intro a hf
            exact O.nil ⟨rfl,hf.to trivial,(fun d hd=>by cases (show some 92=some d from hd); exact hf.get _ _ rfl),hD⟩
          · have hS:St w0 w (fun k=>(srA b vl vb (ofN z.1) z.2.1 z.2.2).fp k) [rdE 4 E40 vl l,rdE 1 E3 vo (ofN p)] [sl 3 1 (.slice (some ⟨b_s13,0,none⟩) 0 0) (([]:List Int).length) (ints []),dz (s 5) (pt b_s12 (.cells #[.int .i64 (i:Int)] 3 (0,0))),srA b vl vb1 (ofN s1.1) s1.2.1 s1.2.2,slE 85 2 E85 vx r.1]:=hD
            replace hf:Fr a 96 [] [(0,.pointer (some ⟨b,0,none⟩)),(1,vo),(2,.int .i64 (u:Int)),(10,.int .i64 (i:Int))]:=hf
            refine O.val hf rfl rfl rfl (aA.move rfl) ?_
            clear hf a; intro a hf
            exact O.nil ⟨rfl,hf.to trivial,(fun d hd=>by cases (show some 92=some d from hd); exact hf.get _ _ rfl),hD⟩
          · have hS:St w0 w (fun k=>(srA b vl vb (ofN z.1) z.2.1 z.2.2).fp k) [rdE 4 E40 vl l,rdE 1 E3 vo (ofN p)] [sl 3 1 v14 ((ofN p).length) (ints (ofN p)),dz (s 5) (pt b_s12 (.cells #[.int .i64 (i:Int)] 3 (0,0))),srA b vl vb1 (ofN s1.1) s1.2.1 s1.2.2,slE 85 2 E85 vx r.1]:=hD
            replace hf:Fr a 96 [] [(0,.pointer (some ⟨b,0,none⟩)),(1,vo),(2,.int .i64 (u:Int)),(10,.int .i64 (i:Int))]:=hf
            refine O.val hf rfl rfl rfl (aA.move rfl) ?_
            clear hf a; intro a hf
            exact O.nil ⟨rfl,hf.to trivial,(fun d hd=>by cases (show some 92=some d from hd); exact hf.get _ _ rfl),hD⟩
          · have hS:St w0 w (fun k=>(srA b vl vb (ofN z.1) z.2.1 z.2.2).fp k) [rdE 4 E40 vl l,rdE 1 E3 vo (ofN p)] [sl 3 1 v15 (((ofN p)++[(i:Int)]).length) (ints ((ofN p)++[(i:Int)])),pt b_s12 (.cells #[.int .i64 (i:Int)] 3 (0,0)),srA b vl vb1 (ofN s1.1) s1.2.1 s1.2.2,slE 85 2 E85 vx r.1]:=hD
            replace hf:Fr a 96 [] [(0,.pointer (some ⟨b,0,none⟩)),(1,vo),(2,.int .i64 (u:Int)),(10,.int .i64 (i:Int))]:=hf
            refine O.val hf rfl rfl rfl (aA.move rfl) ?_
            clear hf a; intro a hf
            exact O.nil ⟨rfl,hf.to trivial,(fun d hd=>by cases (show some 92=some d from hd); exact hf.get _ _ rfl),hD⟩
          · exact absurd h2_ (by simp)
        · intro k s g w h1_ h2_ hsp hD a hf
          obtain ⟨b_s12,b_s13,v14,v15,vb2⟩:=g
          rcases k with _ | _ | _ | _ | k
          · have hS:St w0 w (fun k=>(srA b vl vb (ofN z.1) z.2.1 z.2.2).fp k) [rdE 4 E40 vl l,rdE 1 E3 vo (ofN p)] [dz (s 5) (pt b_s12 (.cells #[.int .i64 (i:Int)] 3 (0,0))),srA b vl vb1 (ofN s1.1) s1.2.1 s1.2.2,slE 85 2 E85 vx r.1]:=hD
            replace hf:Fr a 96 [] [(92,.int .i64 (i:Int)),(0,.pointer (some ⟨b,0,none⟩)),(1,vo),(2,.int .i64 (u:Int)),(10,.int .i64 (i:Int))]:=hf
            refine O.val hf rfl rfl rfl (aA.shl rfl rfl (by omega)) ?_
            clear hf a; intro a hf
            exact O.nil ⟨rfl,hf.to trivial,(fun d hd=>by cases (show some 93=some d from hd); exact hf.get _ _ rfl),hD⟩
          · have hS:St w0 w (fun k=>(srA b vl vb (ofN z.1) z.2.1 z.2.2).fp k) [rdE 4 E40 vl l,rdE 1 E3 vo (ofN p)] [sl 3 1 (.slice (some ⟨b_s13,0,none⟩) 0 0) (([]:List Int).length) (ints []),dz (s 5) (pt b_s12 (.cells #[.int .i64 (i:Int)] 3 (0,0))),srA b vl vb1 (ofN s1.1) s1.2.1 s1.2.2,slE 85 2 E85 vx r.1]:=hD
            replace hf:Fr a 96 [] [(92,.int .i64 (i:Int)),(0,.pointer (some ⟨b,0,none⟩)),(1,vo),(2,.int .i64 (u:Int)),(10,.int .i64 (i:Int))]:=hf
            refine O.val hf rfl rfl rfl (aA.shl rfl rfl (by omega)) ?_
            clear hf a; intro a hf
            exact O.nil ⟨rfl,hf.to trivial,(fun d hd=>by cases (show some 93=some d from hd); exact hf.get _ _ rfl),hD⟩
          · have hS:St w0 w (fun k=>(srA b vl vb (ofN z.1) z.2.1 z.2.2).fp k) [rdE 4 E40 vl l,rdE 1 E3 vo (ofN p)] [sl 3 1 v14 ((ofN p).length) (ints (ofN p)),dz (s 5) (pt b_s12 (.cells #[.int .i64 (i:Int)] 3 (0,0))),srA b vl vb1 (ofN s1.1) s1.2.1 s1.2.2,slE 85 2 E85 vx r.1]:=hD
            replace hf:Fr a 96 [] [(92,.int .i64 (i:Int)),(0,.pointer (some ⟨b,0,none⟩)),(1,vo),(2,.int .i64 (u:Int)),(10,.int .i64 (i:Int))]:=hf
            refine O.val hf rfl rfl rfl (aA.shl rfl rfl (by omega)) ?_
            clear hf a; intro a hf
            exact O.nil ⟨rfl,hf.to trivial,(fun d hd=>by cases (show some 93=some d from hd); exact hf.get _ _ rfl),hD⟩
          · have hS:St w0 w (fun k=>(srA b vl vb (ofN z.1) z.2.1 z.2.2).fp k) [rdE 4 E40 vl l,rdE 1 E3 vo (ofN p)] [sl 3 1 v15 (((ofN p)++[(i:Int)]).length) (ints ((ofN p)++[(i:Int)])),pt b_s12 (.cells #[.int .i64 (i:Int)] 3 (0,0)),srA b vl vb1 (ofN s1.1) s1.2.1 s1.2.2,slE 85 2 E85 vx r.1]:=hD
            replace hf:Fr a 96 [] [(92,.int .i64 (i:Int)),(0,.pointer (some ⟨b,0,none⟩)),(1,vo),(2,.int .i64 (u:Int)),(10,.int .i64 (i:Int))]:=hf
            refine O.val hf rfl rfl rfl (aA.shl rfl rfl (by omega)) ?_
            clear hf a; intro a hf
            exact O.nil ⟨rfl,hf.to trivial,(fun d hd=>by cases (show some 93=some d from hd); exact hf.get _ _ rfl),hD⟩
          · exact absurd h2_ (by simp)
        · intro k s g w h1_ h2_ hsp hD a hf
          obtain ⟨b_s12,b_s13,v14,v15,vb2⟩:=g
          rcases k with _ | _ | _ | _ | k
          · have hS:St w0 w (fun k=>(srA b vl vb (ofN z.1) z.2.1 z.2.2).fp k) [rdE 4 E40 vl l,rdE 1 E3 vo (ofN p)] [dz (s 5) (pt b_s12 (.cells #[.int .i64 (i:Int)] 3 (0,0))),srA b vl vb1 (ofN s1.1) s1.2.1 s1.2.2,slE 85 2 E85 vx r.1]:=hD
            replace hf:Fr a 96 [] [(91,.int .i64 (u:Int)),(93,.int .i64 (IntKind.i64.wrap (1*2^(min (Int.toNat (i:Int)) (IntKind.bits .i64))))),(0,.pointer (some ⟨b,0,none⟩)),(1,vo),(2,.int .i64 (u:Int)),(10,.int .i64 (i:Int))]:=hf
            refine O.val hf rfl rfl rfl (aA.bitor rfl rfl) ?_
            clear hf a; intro a hf
            exact O.nil ⟨rfl,hf.to trivial,(fun d hd=>by cases (show some 94=some d from hd); exact hf.get _ _ rfl),hD⟩
          · have hS:St w0 w (fun k=>(srA b vl vb (ofN z.1) z.2.1 z.2.2).fp k) [rdE 4 E40 vl l,rdE 1 E3 vo (ofN p)] [sl 3 1 (.slice (some ⟨b_s13,0,none⟩) 0 0) (([]:List Int).length) (ints []),dz (s 5) (pt b_s12 (.cells #[.int .i64 (i:Int)] 3 (0,0))),srA b vl vb1 (ofN s1.1) s1.2.1 s1.2.2,slE 85 2 E85 vx r.1]:=hD
            replace hf:Fr a 96 [] [(91,.int .i64 (u:Int)),(93,.int .i64 (IntKind.i64.wrap (1*2^(min (Int.toNat (i:Int)) (IntKind.bits .i64))))),(0,.pointer (some ⟨b,0,none⟩)),(1,vo),(2,.int .i64 (u:Int)),(10,.int .i64 (i:Int))]:=hf
            refine O.val hf rfl rfl rfl (aA.bitor rfl rfl) ?_
            clear hf a; intro a hf
            exact O.nil ⟨rfl,hf.to trivial,(fun d hd=>by cases (show some 94=some d from hd); exact hf.get _ _ rfl),hD⟩
          · have hS:St w0 w (fun k=>(srA b vl vb (ofN z.1) z.2.1 z.2.2).fp k) [rdE 4 E40 vl l,rdE 1 E3 vo (ofN p)] [sl 3 1 v14 ((ofN p).length) (ints (ofN p)),dz (s 5) (pt b_s12 (.cells #[.int .i64 (i:Int)] 3 (0,0))),srA b vl vb1 (ofN s1.1) s1.2.1 s1.2.2,slE 85 2 E85 vx r.1]:=hD
            replace hf:Fr a 96 [] [(91,.int .i64 (u:Int)),(93,.int .i64 (IntKind.i64.wrap (1*2^(min (Int.toNat (i:Int)) (IntKind.bits .i64))))),(0,.pointer (some ⟨b,0,none⟩)),(1,vo),(2,.int .i64 (u:Int)),(10,.int .i64 (i:Int))]:=hf
            refine O.val hf rfl rfl rfl (aA.bitor rfl rfl) ?_
            clear hf a; intro a hf
            exact O.nil ⟨rfl,hf.to trivial,(fun d hd=>by cases (show some 94=some d from hd); exact hf.get _ _ rfl),hD⟩
          · have hS:St w0 w (fun k=>(srA b vl vb (ofN z.1) z.2.1 z.2.2).fp k) [rdE 4 E40 vl l,rdE 1 E3 vo (ofN p)] [sl 3 1 v15 (((ofN p)++[(i:Int)]).length) (ints ((ofN p)++[(i:Int)])),pt b_s12 (.cells #[.int .i64 (i:Int)] 3 (0,0)),srA b vl vb1 (ofN s1.1) s1.2.1 s1.2.2,slE 85 2 E85 vx r.1]:=hD
            replace hf:Fr a 96 [] [(91,.int .i64 (u:Int)),(93,.int .i64 (IntKind.i64.wrap (1*2^(min (Int.toNat (i:Int)) (IntKind.bits .i64))))),(0,.pointer (some ⟨b,0,none⟩)),(1,vo),(2,.int .i64 (u:Int)),(10,.int .i64 (i:Int))]:=hf
            refine O.val hf rfl rfl rfl (aA.bitor rfl rfl) ?_
            clear hf a; intro a hf
            exact O.nil ⟨rfl,hf.to trivial,(fun d hd=>by cases (show some 94=some d from hd); exact hf.get _ _ rfl),hD⟩
          · exact absurd h2_ (by simp)
      · clear hf hf1 hS
        refine ⟨?_,?_,?_,?_,trivial⟩
        · intro s g w hsp hD a hf
          obtain ⟨b_s12,b_s13,v14,v15,vb2⟩:=g
          have hS:St w0 w (fun k=>(srA b vl vb (ofN z.1) z.2.1 z.2.2).fp k) [rdE 4 E40 vl l,rdE 1 E3 vo (ofN p)] [dz (s 5) (pt b_s12 (.cells #[.int .i64 (i:Int)] 3 (0,0))),srA b vl vb1 (ofN s1.1) s1.2.1 s1.2.2,slE 85 2 E85 vx r.1]:=hD
          replace hf:Fr a 96 [] [(0,.pointer (some ⟨b,0,none⟩)),(1,vo),(2,.int .i64 (u:Int)),(10,.int .i64 (i:Int))]:=hf
          clear hD
          refine O.rE hf hS rfl rfl bJ dG rfl ?_
          clear hf hS a; intro b_s17 w a hbb_s17 hS hf
          replace hS:St w0 w (fun k=>(srA b vl vb (ofN z.1) z.2.1 z.2.2).fp k) [rdE 4 E40 vl l,rdE 1 E3 vo (ofN p)] [sl 3 1 (.slice (some ⟨b_s17,0,none⟩) 0 0) (([]:List Int).length) (ints []),dz (s 5) (pt b_s12 (.cells #[.int .i64 (i:Int)] 3 (0,0))),srA b vl vb1 (ofN s1.1) s1.2.1 s1.2.2,slE 85 2 E85 vx r.1]:=hS
          exact O.nil ⟨rfl,(b_s12,b_s17,v14,v15,vb2),hf.to trivial,(fun d hd=>by cases (show some 85=some d from hd); exact hf.get _ _ rfl),(fun j_ hj_ ha_=>match j_,hj_,ha_ with | 0,hj_,ha_=>rfl | 1,hj_,ha_=>absurd rfl hj_ | 2,hj_,ha_=>rfl | 3,hj_,ha_=>absurd ha_ (by decide) | 4,hj_,ha_=>rfl | 5,hj_,ha_=>rfl | 6,hj_,ha_=>absurd ha_ (by decide) | 7,hj_,ha_=>rfl | 8,hj_,ha_=>rfl | 9,hj_,ha_=>rfl | 10,hj_,ha_=>rfl | 11,hj_,ha_=>absurd ha_ (by decide) | _+12,_,_=>rfl),hS⟩
        · intro s g w hsp hD a hf
          obtain ⟨b_s12,b_s13,v14,v15,vb2⟩:=g
          have hS:St w0 w (fun k=>(srA b vl vb (ofN z.1) z.2.1 z.2.2).fp k) [rdE 4 E40 vl l,rdE 1 E3 vo (ofN p)] [sl 3 1 (.slice (some ⟨b_s13,0,none⟩) 0 0) (([]:List Int).length) (ints []),dz (s 5) (pt b_s12 (.cells #[.int .i64 (i:Int)] 3 (0,0))),srA b vl vb1 (ofN s1.1) s1.2.1 s1.2.2,slE 85 2 E85 vx r.1]:=hD
          replace hf:Fr a 96 [] [(85,.slice (some ⟨b_s13,0,none⟩) 0 0),(86,vo),(0,.pointer (some ⟨b,0,none⟩)),(1,vo),(2,.int .i64 (u:Int)),(10,.int .i64 (i:Int))]:=hf
          clear hD
          refine O.aA9 (j:=0) hf hS rfl rfl bJ dG wM rz rfl rfl rfl rfl rfl (zx (hS.rdB (j:=1) rfl)) (wW _) (by unfold maxLen; simp only [List.length_nil]; omega) (by simp only [List.length_nil]; omega) ?_
          clear hf hS a; intro v18 w a hS hf
          replace hS:=hS.eqM (N:=[sl 3 1 v18 (([]:List Int).length+(ofN p).length) (ints []++ints (ofN p)),dz (s 5) (pt b_s12 (.cells #[.int .i64 (i:Int)] 3 (0,0))),srA b vl vb1 (ofN s1.1) s1.2.1 s1.2.2,slE 85 2 E85 vx r.1]) rfl
          replace hS:=hS.eqM (N:=[sl 3 1 v18 ((ofN p).length) (ints (ofN p)),dz (s 5) (pt b_s12 (.cells #[.int .i64 (i:Int)] 3 (0,0))),srA b vl vb1 (ofN s1.1) s1.2.1 s1.2.2,slE 85 2 E85 vx r.1]) (by simp only [aAH,List.length_append,List.length_nil,Nat.zero_add,List.nil_append,ints,List.map_nil])
          exact O.nil ⟨rfl,(b_s12,b_s13,v18,v15,vb2),hf.to trivial,(fun d hd=>by cases (show some 87=some d from hd); exact hf.get _ _ rfl),(fun j_ hj_ ha_=>match j_,hj_,ha_ with | 0,hj_,ha_=>rfl | 1,hj_,ha_=>rfl | 2,hj_,ha_=>rfl | 3,hj_,ha_=>absurd rfl hj_ | 4,hj_,ha_=>rfl | 5,hj_,ha_=>rfl | 6,hj_,ha_=>absurd ha_ (by decide) | 7,hj_,ha_=>rfl | 8,hj_,ha_=>rfl | 9,hj_,ha_=>rfl | 10,hj_,ha_=>rfl | 11,hj_,ha_=>absurd ha_ (by decide) | _+12,_,_=>rfl),hS⟩
        · intro s g w hsp hD a hf
          obtain ⟨b_s12,b_s13,v14,v15,vb2⟩:=g
          have ha_5:s 5=true:=hsp 5 (by simp)
          have hS:St w0 w (fun k=>(srA b vl vb (ofN z.1) z.2.1 z.2.2).fp k) [rdE 4 E40 vl l,rdE 1 E3 vo (ofN p)] [sl 3 1 v14 ((ofN p).length) (ints (ofN p)),dz (s 5) (pt b_s12 (.cells #[.int .i64 (i:Int)] 3 (0,0))),srA b vl vb1 (ofN s1.1) s1.2.1 s1.2.2,slE 85 2 E85 vx r.1]:=hD; rw [ha_5] at hS
          replace hS:St w0 w (fun k=>(srA b vl vb (ofN z.1) z.2.1 z.2.2).fp k) [rdE 4 E40 vl l,rdE 1 E3 vo (ofN p)] [sl 3 1 v14 ((ofN p).length) (ints (ofN p)),pt b_s12 (.cells #[.int .i64 (i:Int)] 3 (0,0)),srA b vl vb1 (ofN s1.1) s1.2.1 s1.2.2,slE 85 2 E85 vx r.1]:=hS
          replace hf:Fr a 96 [] [(87,v14),(89,.slice (some ⟨b_s12,0,none⟩) 1 1),(0,.pointer (some ⟨b,0,none⟩)),(1,vo),(2,.int .i64 (u:Int)),(10,.int .i64 (i:Int))]:=hf
          clear hD
          refine O.aCn (j:=0) (jj:=1) hf hS rfl rfl bJ dG wM rz rfl rfl rfl rfl rfl rfl rfl rfl (by unfold maxLen; omega) (by omega) ?_
          clear hf hS a; intro v19 w a hS hf
          replace hS:=hS.eqM (N:=[sl 3 1 v19 ((ofN p).length+1) (ints (ofN p)++[.int .i64 (i:Int)]),pt b_s12 (.cells #[.int .i64 (i:Int)] 3 (0,0)),srA b vl vb1 (ofN s1.1) s1.2.1 s1.2.2,slE 85 2 E85 vx r.1]) rfl
          replace hS:=hS.eqM (N:=[sl 3 1 v19 (((ofN p)++[(i:Int)]).length) (ints ((ofN p)++[(i:Int)])),pt b_s12 (.cells #[.int .i64 (i:Int)] 3 (0,0)),srA b vl vb1 (ofN s1.1) s1.2.1 s1.2.2,slE 85 2 E85 vx r.1]) (by rw [aFO])
          exact O.nil ⟨rfl,(b_s12,b_s13,v14,v19,vb2),hf.to trivial,(fun d hd=>by cases (show some 90=some d from hd); exact hf.get _ _ rfl),(fun j_ hj_ ha_=>match j_,hj_,ha_ with | 0,hj_,ha_=>rfl | 1,hj_,ha_=>rfl | 2,hj_,ha_=>rfl | 3,hj_,ha_=>rfl | 4,hj_,ha_=>rfl | 5,hj_,ha_=>rfl | 6,hj_,ha_=>absurd rfl hj_ | 7,hj_,ha_=>rfl | 8,hj_,ha_=>rfl | 9,hj_,ha_=>rfl | 10,hj_,ha_=>rfl | 11,hj_,ha_=>absurd ha_ (by decide) | _+12,_,_=>rfl),hS⟩
        · intro s g w hsp hD a hf
          obtain ⟨b_s12,b_s13,v14,v15,vb2⟩:=g
          have ha_5:s 5=true:=hsp 5 (by simp)
          have hS:St w0 w (fun k=>(srA b vl vb (ofN z.1) z.2.1 z.2.2).fp k) [rdE 4 E40 vl l,rdE 1 E3 vo (ofN p)] [sl 3 1 v15 (((ofN p)++[(i:Int)]).length) (ints ((ofN p)++[(i:Int)])),pt b_s12 (.cells #[.int .i64 (i:Int)] 3 (0,0)),srA b vl vb1 (ofN s1.1) s1.2.1 s1.2.2,slE 85 2 E85 vx r.1]:=hD
          replace hS:St w0 w (fun k=>(srA b vl vb (ofN z.1) z.2.1 z.2.2).fp k) [rdE 4 E40 vl l,rdE 1 E3 vo (ofN p)] [sl 3 1 v15 (((ofN p)++[(i:Int)]).length) (ints ((ofN p)++[(i:Int)])),pt b_s12 (.cells #[.int .i64 (i:Int)] 3 (0,0)),srA b vl vb1 (ofN s1.1) s1.2.1 s1.2.2,slE 85 2 E85 vx r.1]:=hS
          replace hf:Fr a 96 [] [(84,.pointer (some ⟨b,0,none⟩)),(90,v15),(94,.int .i64 (bitor .i64 (u:Int) (IntKind.i64.wrap (1*2^(min (Int.toNat (i:Int)) (IntKind.bits .i64)))))),(0,.pointer (some ⟨b,0,none⟩)),(1,vo),(2,.int .i64 (u:Int)),(10,.int .i64 (i:Int))]:=hf
          clear hD
          rw [aB3 u i hu (by omega)] at hf
          refine O.wY hf rfl rfl rfl (tY.call (av:=#[.pointer (some ⟨b,0,none⟩),v15,.int .i64 ((u|||2^i:Nat):Int)]) aCl rfl rfl rfl) (ih b vl vb1 v15 l (p++[i]) (u|||2^i) s1 _ (by have:=hbm.1; omega) hl ok hbm.2 (by have:=hbm.1; rw [List.length_append,List.length_singleton]; omega) hpi (hS.rdB (j:=0) rfl) (by rw [aEp]; exact aCc (hS.slr (j:=0) rfl) ((hS.aGy (j:=0) rfl).fit)) (hS.aBV (i:=2) rfl) (hS.apart (i:=2) (j:=0) rfl rfl) (fun k_ h1_=>hS.xA (i:=2) (j:=0) rfl rfl (by decide) k_ h1_.2)) ?_
          clear hf a
          rintro vb2 w20 hS1 a hf
          replace hf:Fr a _ _ ((95,.tuple #[])::_):=hf
          replace hS:=(hS.aCQ hS1 (i:=2) rfl (fun _ h=>h)).eqM (N:=[srA b vl vb2 (ofN (srch l n (p++[i]) (u|||2^i) s1).1) (srch l n (p++[i]) (u|||2^i) s1).2.1 (srch l n (p++[i]) (u|||2^i) s1).2.2,sl 3 1 v15 (((ofN p)++[(i:Int)]).length) (ints ((ofN p)++[(i:Int)])),pt b_s12 (.cells #[.int .i64 (i:Int)] 3 (0,0)),slE 85 2 E85 vx r.1]) rfl
          clear hS1
          exact O.nil ⟨rfl,(b_s12,b_s13,v14,v15,vb2),hf.to trivial,(fun d hd=>by cases (show some 95=some d from hd); exact hf.get _ _ rfl),(fun j_ hj_ ha_=>match j_,hj_,ha_ with | 0,hj_,ha_=>rfl | 1,hj_,ha_=>rfl | 2,hj_,ha_=>rfl | 3,hj_,ha_=>rfl | 4,hj_,ha_=>rfl | 5,hj_,ha_=>rfl | 6,hj_,ha_=>rfl | 7,hj_,ha_=>rfl | 8,hj_,ha_=>rfl | 9,hj_,ha_=>rfl | 10,hj_,ha_=>rfl | 11,hj_,ha_=>absurd rfl hj_ | _+12,_,_=>rfl),hS⟩
      · clear hf hf1 hS
        refine ⟨?_,trivial⟩
        · intro k s g w h1_ h2_ hs0 hD a hf
          obtain ⟨b_s12,b_s13,v14,v15,vb2⟩:=g
          rcases k with _ | _ | _ | k
          · have hS:St w0 w (fun k=>(srA b vl vb (ofN z.1) z.2.1 z.2.2).fp k) [rdE 4 E40 vl l,rdE 1 E3 vo (ofN p)] [dz (s 5) (pt b_s12 (.cells #[.int .i64 (i:Int)] 3 (0,0))),srA b vl vb1 (ofN s1.1) s1.2.1 s1.2.2,slE 85 2 E85 vx r.1]:=hD; clear hD
            replace hf:Fr a 96 [] [(88,.int .i64 (i:Int)),(0,.pointer (some ⟨b,0,none⟩)),(1,vo),(2,.int .i64 (u:Int)),(10,.int .i64 (i:Int))]:=hf
            refine O.aCS (j:=0) (cs':=#[.int .i64 (i:Int)]) (zs:=#[.int .i64 0]) hf hS rfl hs0 rfl rfl bJ dG rz rfl rfl rfl rfl rfl ?_; clear hf hS a; intro b_s21 w a hS hf
            exact O.nil ⟨rfl,(b_s21,b_s13,v14,v15,vb2),hf.to trivial,(fun d hd=>by cases (show some 89=some d from hd); exact hf.get _ _ rfl),(fun j_ hj_ ha_=>match j_,hj_,ha_ with | 0,hj_,ha_=>rfl | 1,hj_,ha_=>rfl | 2,hj_,ha_=>rfl | 3,hj_,ha_=>rfl | 4,hj_,ha_=>rfl | 5,hj_,ha_=>absurd rfl hj_ | 6,hj_,ha_=>absurd ha_ (by decide) | 7,hj_,ha_=>rfl | 8,hj_,ha_=>rfl | 9,hj_,ha_=>rfl | 10,hj_,ha_=>rfl | 11,hj_,ha_=>absurd ha_ (by decide) | _+12,_,_=>rfl),hS⟩
          · have hS:St w0 w (fun k=>(srA b vl vb (ofN z.1) z.2.1 z.2.2).fp k) [rdE 4 E40 vl l,rdE 1 E3 vo (ofN p)] [sl 3 1 (.slice (some ⟨b_s13,0,none⟩) 0 0) (([]:List Int).length) (ints []),dz (s 5) (pt b_s12 (.cells #[.int .i64 (i:Int)] 3 (0,0))),srA b vl vb1 (ofN s1.1) s1.2.1 s1.2.2,slE 85 2 E85 vx r.1]:=hD; clear hD
            replace hf:Fr a 96 [] [(88,.int .i64 (i:Int)),(0,.pointer (some ⟨b,0,none⟩)),(1,vo),(2,.int .i64 (u:Int)),(10,.int .i64 (i:Int))]:=hf
            refine O.aCS (j:=1) (cs':=#[.int .i64 (i:Int)]) (zs:=#[.int .i64 0]) hf hS rfl hs0 rfl rfl bJ dG rz rfl rfl rfl rfl rfl ?_; clear hf hS a; intro b_s22 w a hS hf
            exact O.nil ⟨rfl,(b_s22,b_s13,v14,v15,vb2),hf.to trivial,(fun d hd=>by cases (show some 89=some d from hd); exact hf.get _ _ rfl),(fun j_ hj_ ha_=>match j_,hj_,ha_ with | 0,hj_,ha_=>rfl | 1,hj_,ha_=>rfl | 2,hj_,ha_=>rfl | 3,hj_,ha_=>rfl | 4,hj_,ha_=>rfl | 5,hj_,ha_=>absurd rfl hj_ | 6,hj_,ha_=>absurd ha_ (by decide) | 7,hj_,ha_=>rfl | 8,hj_,ha_=>rfl | 9,hj_,ha_=>rfl | 10,hj_,ha_=>rfl | 11,hj_,ha_=>absurd ha_ (by decide) | _+12,_,_=>rfl),hS⟩
          · have hS:St w0 w (fun k=>(srA b vl vb (ofN z.1) z.2.1 z.2.2).fp k) [rdE 4 E40 vl l,rdE 1 E3 vo (ofN p)] [sl 3 1 v14 ((ofN p).length) (ints (ofN p)),dz (s 5) (pt b_s12 (.cells #[.int .i64 (i:Int)] 3 (0,0))),srA b vl vb1 (ofN s1.1) s1.2.1 s1.2.2,slE 85 2 E85 vx r.1]:=hD; clear hD
            replace hf:Fr a 96 [] [(88,.int .i64 (i:Int)),(0,.pointer (some ⟨b,0,none⟩)),(1,vo),(2,.int .i64 (u:Int)),(10,.int .i64 (i:Int))]:=hf
            refine O.aCS (j:=1) (cs':=#[.int .i64 (i:Int)]) (zs:=#[.int .i64 0]) hf hS rfl hs0 rfl rfl bJ dG rz rfl rfl rfl rfl rfl ?_; clear hf hS a; intro b_s23 w a hS hf
            exact O.nil ⟨rfl,(b_s23,b_s13,v14,v15,vb2),hf.to trivial,(fun d hd=>by cases (show some 89=some d from hd); exact hf.get _ _ rfl),(fun j_ hj_ ha_=>match j_,hj_,ha_ with | 0,hj_,ha_=>rfl | 1,hj_,ha_=>rfl | 2,hj_,ha_=>rfl | 3,hj_,ha_=>rfl | 4,hj_,ha_=>rfl | 5,hj_,ha_=>absurd rfl hj_ | 6,hj_,ha_=>absurd ha_ (by decide) | 7,hj_,ha_=>rfl | 8,hj_,ha_=>rfl | 9,hj_,ha_=>rfl | 10,hj_,ha_=>rfl | 11,hj_,ha_=>absurd ha_ (by decide) | _+12,_,_=>rfl),hS⟩
          · exact absurd h2_ (by simp)
      clear hf hf1 hS; intro s g a w hs_ hf hD
      obtain ⟨b_s12,b_s13,v14,v15,vb2⟩:=g
      have ha_5:s 5=true:=hs_ 5 (by simp)
      have hS:St w0 w (fun k=>(srA b vl vb (ofN z.1) z.2.1 z.2.2).fp k) [rdE 4 E40 vl l,rdE 1 E3 vo (ofN p)] [srA b vl vb2 (ofN (srch l n (p++[i]) (u|||2^i) s1).1) (srch l n (p++[i]) (u|||2^i) s1).2.1 (srch l n (p++[i]) (u|||2^i) s1).2.2,sl 3 1 v15 (((ofN p)++[(i:Int)]).length) (ints ((ofN p)++[(i:Int)])),pt b_s12 (.cells #[.int .i64 (i:Int)] 3 (0,0)),slE 85 2 E85 vx r.1]:=hD; clear hD
      replace hf:Fr a 96 [] [(84,.pointer (some ⟨b,0,none⟩)),(85,.slice (some ⟨b_s13,0,none⟩) 0 0),(86,vo),(87,v14),(88,.int .i64 (i:Int)),(89,.slice (some ⟨b_s12,0,none⟩) 1 1),(90,v15),(91,.int .i64 (u:Int)),(92,.int .i64 (i:Int)),(93,.int .i64 (IntKind.i64.wrap (1*2^(min (Int.toNat (i:Int)) (IntKind.bits .i64))))),(94,.int .i64 (bitor .i64 (u:Int) (IntKind.i64.wrap (1*2^(min (Int.toNat (i:Int)) (IntKind.bits .i64)))))),(95,.tuple #[]),(0,.pointer (some ⟨b,0,none⟩)),(1,vo),(2,.int .i64 (u:Int)),(10,.int .i64 (i:Int))]:=hf
      replace hS:St w0 _ (fun k=>(srA b vl vb (ofN z.1) z.2.1 z.2.2).fp k) [rdE 4 E40 vl l,rdE 1 E3 vo (ofN p)] [pt b (.cells #[vl,vb2,.int .i64 ((srch l n (p++[i]) (u|||2^i) s1).2.1),.int .i64 ((srch l n (p++[i]) (u|||2^i) s1).2.2)] 88 (0,0)),sl 3 1 vb2 ((ofN (srch l n (p++[i]) (u|||2^i) s1).1).length) (ints (ofN (srch l n (p++[i]) (u|||2^i) s1).1)),sl 3 1 v15 (((ofN p)++[(i:Int)]).length) (ints ((ofN p)++[(i:Int)])),pt b_s12 (.cells #[.int .i64 (i:Int)] 3 (0,0)),slE 85 2 E85 vx r.1]:=St.zZ (N:=[]) (l:=[pt b (.cells #[vl,vb2,.int .i64 ((srch l n (p++[i]) (u|||2^i) s1).2.1),.int .i64 ((srch l n (p++[i]) (u|||2^i) s1).2.2)] 88 (0,0)),sl 3 1 vb2 ((ofN (srch l n (p++[i]) (u|||2^i) s1).1).length) (ints (ofN (srch l n (p++[i]) (u|||2^i) s1).1))]) (M:=[sl 3 1 v15 (((ofN p)++[(i:Int)]).length) (ints ((ofN p)++[(i:Int)])),pt b_s12 (.cells #[.int .i64 (i:Int)] 3 (0,0)),slE 85 2 E85 vx r.1]) hS
      refine aQ ?_
      refine aP ?_
      replace hf:Fr a 96 [] [(0,.pointer (some ⟨b,0,none⟩)),(1,vo),(2,.int .i64 (u:Int)),(10,.int .i64 (i:Int))]:=hf.to ⟨rfl,rfl,rfl,rfl,trivial⟩
      refine W.aU (l:=[0,1,2]) rfl ?_
      refine O.val hf rfl rfl rfl (aA.move rfl) ?_
      clear hf a; intro a hf
      refine O.val hf rfl rfl rfl (aA.aGp rfl rfl (by omega)) ?_
      clear hf a; intro a hf
      refine O.val hf rfl rfl rfl (aA.assign rfl) ?_
      clear hf a; intro a hf
      refine O.nil ?_
      replace hS:=hS.front (i:=1) (M':=[sl 3 1 vb2 ((ofN (srch l n (p++[i]) (u|||2^i) s1).1).length) (ints (ofN (srch l n (p++[i]) (u|||2^i) s1).1)),pt b (.cells #[vl,vb2,.int .i64 ((srch l n (p++[i]) (u|||2^i) s1).2.1),.int .i64 ((srch l n (p++[i]) (u|||2^i) s1).2.2)] 88 (0,0)),sl 3 1 v15 (((ofN p)++[(i:Int)]).length) (ints ((ofN p)++[(i:Int)])),pt b_s12 (.cells #[.int .i64 (i:Int)] 3 (0,0)),slE 85 2 E85 vx r.1]) rfl rfl
      replace hS:=hS.front (i:=1) (M':=[pt b (.cells #[vl,vb2,.int .i64 ((srch l n (p++[i]) (u|||2^i) s1).2.1),.int .i64 ((srch l n (p++[i]) (u|||2^i) s1).2.2)] 88 (0,0)),sl 3 1 vb2 ((ofN (srch l n (p++[i]) (u|||2^i) s1).1).length) (ints (ofN (srch l n (p++[i]) (u|||2^i) s1).1)),sl 3 1 v15 (((ofN p)++[(i:Int)]).length) (ints ((ofN p)++[(i:Int)])),pt b_s12 (.cells #[.int .i64 (i:Int)] 3 (0,0)),slE 85 2 E85 vx r.1]) rfl rfl
      replace hS:=hS.front (i:=4) (M':=[slE 85 2 E85 vx r.1,pt b (.cells #[vl,vb2,.int .i64 ((srch l n (p++[i]) (u|||2^i) s1).2.1),.int .i64 ((srch l n (p++[i]) (u|||2^i) s1).2.2)] 88 (0,0)),sl 3 1 vb2 ((ofN (srch l n (p++[i]) (u|||2^i) s1).1).length) (ints (ofN (srch l n (p++[i]) (u|||2^i) s1).1)),sl 3 1 v15 (((ofN p)++[(i:Int)]).length) (ints ((ofN p)++[(i:Int)])),pt b_s12 (.cells #[.int .i64 (i:Int)] 3 (0,0))]) rfl rfl
      replace hS:=hS.sub (N:=[slE 85 2 E85 vx r.1,pt b (.cells #[vl,vb2,.int .i64 ((srch l n (p++[i]) (u|||2^i) s1).2.1),.int .i64 ((srch l n (p++[i]) (u|||2^i) s1).2.2)] 88 (0,0)),sl 3 1 vb2 ((ofN (srch l n (p++[i]) (u|||2^i) s1).1).length) (ints (ofN (srch l n (p++[i]) (u|||2^i) s1).1))]) (.cons_cons _ (.cons_cons _ (.cons_cons _ (.cons _ (.cons _ .slnil)))))
      refine aS ⟨(i+1,vb2,(srch l n (p++[i]) (u|||2^i) s1)),⟨hf.to ⟨rfl,rfl,rfl,(by first | rfl | exact congrArg some (congrArg (Value.int _) (by omega))),trivial⟩,?_,?_,?_⟩,?_⟩
      · exact hS.eqM rfl
      · omega
      · rw [aEn,← g2]; unfold aC8; rw [if_neg (by rw [(zQ u i hu (by omega)).1 hbit]; decide)]
      · dsimp only; omega
    · refine W.skip ?_
      refine aQ ?_
      refine aP ?_
      refine W.aU (l:=[0,1,2]) rfl ?_
      refine O.val hf rfl rfl rfl (aA.move rfl) ?_
      clear hf a; intro a hf
      refine O.val hf rfl rfl rfl (aA.aGp rfl rfl (by omega)) ?_
      clear hf a; intro a hf
      refine O.val hf rfl rfl rfl (aA.assign rfl) ?_
      clear hf a; intro a hf
      refine O.nil ?_
      refine aS ⟨(i+1,vb1,s1),⟨hf.to ⟨rfl,rfl,rfl,(by first | rfl | exact congrArg some (congrArg (Value.int _) (by omega))),trivial⟩,?_,?_,?_⟩,?_⟩
      · exact hS.eqM rfl
      · omega
      · rw [aEn,← g2]; unfold aC8; rw [if_pos (by simpa using fun h=>hbit ((zQ u i hu (by omega)).2 h))]
      · dsimp only; omega
  · refine W.exit ?_
    refine aK ?_
    refine aK ?_
    refine fG ?_
    refine y9 ?_
    refine aDD hf rfl  ?_
    replace hS:=hS.front (i:=2) (M':=[sl 3 1 vb1 ((ofN s1.1).length) (ints (ofN s1.1)),slE 85 2 E85 vx r.1,pt b (.cells #[vl,vb1,.int .i64 s1.2.1,.int .i64 s1.2.2] 88 (0,0))]) rfl rfl
    replace hS:=hS.front (i:=2) (M':=[pt b (.cells #[vl,vb1,.int .i64 s1.2.1,.int .i64 s1.2.2] 88 (0,0)),sl 3 1 vb1 ((ofN s1.1).length) (ints (ofN s1.1)),slE 85 2 E85 vx r.1]) rfl rfl
    obtain rfl:i=l.length:=by omega
    refine ⟨vb1,rfl,?_⟩
    rw [aGR hg,← g2]
    exact St.xH (N:=[]) (l:=[pt b (.cells #[vl,vb1,.int .i64 s1.2.1,.int .i64 s1.2.2] 88 (0,0)),sl 3 1 vb1 ((ofN s1.1).length) (ints (ofN s1.1))]) (M:=[]) ((hS.sub (N:=[pt b (.cells #[vl,vb1,.int .i64 s1.2.1,.int .i64 s1.2.2] 88 (0,0)),sl 3 1 vb1 ((ofN s1.1).length) (ints (ofN s1.1))]) (.cons_cons _ (.cons_cons _ (.cons _ .slnil)))).noB)
theorem aB0:∀ n,aEU n
  | 0=>fun b vl vb vo l p u z w0 hn hl ok hu hpu hpr hlv ho h0 al ao=>absurd hn (by omega)
  | n+1=>fun b vl vb vo l p u z w0 hn hl ok hu hpu hpr hlv ho h0 al ao=>by
    cases hg:goes l E0 p with
    | none=>exact aDe b vl vb vo l p u z w0 n hg hl ok hu hpu hpr hlv ho h0 al ao
    | some r=>exact aDP b vl vb vo l p u z w0 n hn (aB0 n) r hg hl ok hu hpu hpr hlv ho h0 al ao
theorem aFA {h:Hp}:aV h 1 E3 (.slice none 0 0) (ofN []):=⟨⟨rfl,Nat.zero_le _,none,0,rfl,fun h=>absurd h (Nat.lt_irrefl _)⟩,Nat.le_refl 0⟩
set_option maxHeartbeats 1000000 in
set_option maxRecDepth 4000 in
theorem aDx (F:Nat) (vl:Value) (l:List BTask) (w0:World) (c:Int) (hc:iB F l=some c) (h0:c≠0) (hlv:aV (hp w0) 4 E40 vl l) :
    Ret Tryz.prog 10 #[vl] w0 (G:=Value) (fun v=>.tuple #[v,.int .i64 0,.int .i64 c]) (fun v w=>St w0 w noX [] [slE 85 2 E85 v []]):=by
  refine aX (lv:=[vl]) Tryz.func10 rfl rfl rfl (fun a hf=>?_)
  replace hf:Fr a 35 [] [(0,vl)]:=hf
  have hS:St w0 w0 noX [rdE 4 E40 vl l] []:=St.borrow (aD (aY hlv) aL)
  refine W.seq ?_
  refine W.aU (l:=[0,1,2]) rfl ?_
  refine O.val hf rfl rfl rfl (aA.assign rfl) ?_
  clear hf a; intro a hf
  refine O.val hf rfl rfl rfl (aA.assign rfl) ?_
  clear hf a; intro a hf
  refine O.val hf rfl rfl rfl (aA.assign rfl) ?_
  clear hf a; intro a hf
  refine O.nil ?_
  refine aP ?_
  refine W.seq ?_
  refine W.seq ?_
  refine W.aU (l:=[0,1,2]) rfl ?_
  refine O.val hf rfl rfl rfl (aA.move rfl) ?_
  clear hf a; intro a hf
  refine O.wY hf rfl rfl rfl (tY.call (av:=#[vl]) zW rfl rfl rfl) (qN F vl l _ (hS.rdB (j:=0) rfl) c hc) ?_
  clear hf a
  rintro _ w1 hS1 a hf
  replace hf:Fr a _ _ ((11,.int .i64 c)::_):=hf
  replace hS:=(hS.call hS1).eqM (N:=[]) rfl
  clear hS1
  refine O.val hf rfl rfl rfl (aA.assign rfl) ?_
  clear hf a; intro a hf
  refine O.nil ?_
  refine aP ?_
  replace hf:Fr a 35 [] [(0,vl),(2,.slice none 0 0),(3,.int .i64 0),(4,.int .i64 0),(5,.int .i64 c)]:=hf.to ⟨rfl,rfl,rfl,rfl,rfl,trivial⟩
  refine W.seq ?_
  refine W.aU (l:=[0,1]) rfl ?_
  refine O.val hf rfl rfl rfl (aA.move rfl) ?_
  clear hf a; intro a hf
  refine O.val (v:=.bool (decide (c≠(0:Int)))) hf rfl rfl rfl (aA.neq rfl rfl) ?_
  clear hf a; intro a hf
  refine O.nil ?_
  refine aP ?_
  replace hf:Fr a 35 [] [(0,vl),(2,.slice none 0 0),(3,.int .i64 0),(4,.int .i64 0),(5,.int .i64 c),(13,.bool (decide (c≠(0:Int))))]:=hf.to ⟨rfl,rfl,rfl,rfl,rfl,rfl,trivial⟩
  have hbc:(decide (c≠(0:Int)))=true:=decide_eq_true h0
  simp only [hbc] at hf; clear hbc
  refine W.wZ hf rfl ?_
  refine W.seq ?_
  refine W.aU (l:=[0,1,2,3]) rfl ?_
  refine O.val hf rfl rfl rfl (aA.move rfl) ?_
  clear hf a; intro a hf
  refine O.val hf rfl rfl rfl (aA.assign rfl) ?_
  clear hf a; intro a hf
  refine O.val hf rfl rfl rfl (aA.assign rfl) ?_
  clear hf a; intro a hf
  refine O.val hf rfl rfl rfl (aA.assign rfl) ?_
  clear hf a; intro a hf
  refine O.nil ?_
  refine aP ?_
  replace hf:Fr a 35 [] [(0,vl),(2,.slice none 0 0),(3,.int .i64 0),(4,.int .i64 c)]:=hf.to ⟨rfl,rfl,rfl,rfl,trivial⟩
  refine W.ret ?_
  refine aF ?_
  refine uo hf rfl (aJ.tmp rfl) (aJ.tmp rfl) (aJ.tmp rfl) ?_
  exact ⟨.slice none 0 0,rfl,((hS.sub (List.nil_sublist _)).noB).aDj 85 2⟩
set_option maxHeartbeats 1000000 in
set_option maxRecDepth 4000 in
theorem aFp (F:Nat) (hF:256≤F) (vl:Value) (l:List BTask) (w0:World) (hc:iB F l=some 0) (hl:l.length≤8) (ok:∀ t ∈ l,Okt t) (hlv:aV (hp w0) 4 E40 vl l) :
    Ret Tryz.prog 10 #[vl] w0 (G:=Value) (fun v=>.tuple #[v,.int .i64 (cB l F 0 E0).2.2,.int .i64 0]) (fun v w=>St w0 w noX [] [slE 85 2 E85 v (cB l F 0 E0).1]):=by
  refine aX (lv:=[vl]) Tryz.func10 rfl rfl rfl (fun a hf=>?_)
  replace hf:Fr a 35 [] [(0,vl)]:=hf
  have hS:St w0 w0 noX [rdE 4 E40 vl l] []:=St.borrow (aD (aY hlv) aL)
  refine W.seq ?_
  refine W.aU (l:=[0,1,2]) rfl ?_
  refine O.val hf rfl rfl rfl (aA.assign rfl) ?_
  clear hf a; intro a hf
  refine O.val hf rfl rfl rfl (aA.assign rfl) ?_
  clear hf a; intro a hf
  refine O.val hf rfl rfl rfl (aA.assign rfl) ?_
  clear hf a; intro a hf
  refine O.nil ?_
  refine aP ?_
  refine W.seq ?_
  refine W.seq ?_
  refine W.aU (l:=[0,1,2]) rfl ?_
  refine O.val hf rfl rfl rfl (aA.move rfl) ?_
  clear hf a; intro a hf
  refine O.wY hf rfl rfl rfl (tY.call (av:=#[vl]) zW rfl rfl rfl) (qN F vl l _ (hS.rdB (j:=0) rfl) 0 hc) ?_
  clear hf a
  rintro _ w1 hS1 a hf
  replace hf:Fr a _ _ ((11,.int .i64 0)::_):=hf
  replace hS:=(hS.call hS1).eqM (N:=[]) rfl
  clear hS1
  refine O.val hf rfl rfl rfl (aA.assign rfl) ?_
  clear hf a; intro a hf
  refine O.nil ?_
  refine aP ?_
  replace hf:Fr a 35 [] [(0,vl),(2,.slice none 0 0),(3,.int .i64 0),(4,.int .i64 0),(5,.int .i64 0)]:=hf.to ⟨rfl,rfl,rfl,rfl,rfl,trivial⟩
  refine W.seq ?_
  refine W.aU (l:=[0,1]) rfl ?_
  refine O.val hf rfl rfl rfl (aA.move rfl) ?_
  clear hf a; intro a hf
  refine O.val hf rfl rfl rfl (aA.toB (c:=false) (aA.neq rfl rfl) (by decide)) ?_
  clear hf a; intro a hf
  refine O.nil ?_
  refine aP ?_
  replace hf:Fr a 35 [] [(0,vl),(2,.slice none 0 0),(3,.int .i64 0),(4,.int .i64 0),(5,.int .i64 0),(13,.bool false)]:=hf.to ⟨rfl,rfl,rfl,rfl,rfl,rfl,trivial⟩
  refine W.xX hf rfl ?_
  refine W.skip ?_
  refine aP ?_
  replace hf:Fr a 35 [] [(0,vl),(2,.slice none 0 0),(3,.int .i64 0),(4,.int .i64 0)]:=hf.to ⟨rfl,rfl,rfl,rfl,trivial⟩
  refine W.seq ?_
  refine W.aU (l:=[0,1,2,3]) rfl ?_
  refine O.val hf rfl rfl rfl (aA.move rfl) ?_
  clear hf a; intro a hf
  have hcl2:=sI.cells (hS.rdB (j:=0) rfl).1
  refine O.val hf rfl rfl rfl (aA.dh (cs':=#[vl,.slice none 0 0,.int .i64 0,.int .i64 0]) aB5 aDf rfl (by simp only [Instr.fill,hcl2.1]; rfl)) ?_
  clear hf a; intro a hf
  refine O.box (cs:=#[vl,.slice none 0 0,.int .i64 0,.int .i64 0]) hf hS rfl rfl rfl rfl ?_
  clear hf hS a; intro b_x3 w a hbb_x3 hS hf
  refine O.val hf rfl rfl rfl (aA.assign rfl) ?_
  clear hf a; intro a hf
  refine O.nil ?_
  refine aP ?_
  replace hf:Fr a 35 [] [(0,vl),(2,.slice none 0 0),(3,.int .i64 0),(4,.int .i64 0),(6,.pointer (some ⟨b_x3,0,none⟩))]:=hf.to ⟨rfl,rfl,rfl,rfl,rfl,trivial⟩
  refine W.seq ?_
  refine W.aU (l:=[0,1]) rfl ?_
  replace hS:St w0 _ noX [rdE 4 E40 vl l] [sl 3 1 (.slice none 0 0) ((ofN []).length) (ints (ofN [])),pt b_x3 (.cells #[vl,.slice none 0 0,.int .i64 0,.int .i64 0] 88 (0,0))]:=hS.aDj 3 1
  replace hS:=hS.front (i:=1) (M':=[pt b_x3 (.cells #[vl,.slice none 0 0,.int .i64 0,.int .i64 0] 88 (0,0)),sl 3 1 (.slice none 0 0) ((ofN []).length) (ints (ofN []))]) rfl rfl
  replace hS:St w0 _ noX [rdE 4 E40 vl l] [srA b_x3 vl (.slice none 0 0) (ofN []) 0 0]:=St.xH (N:=[]) (l:=[pt b_x3 (.cells #[vl,.slice none 0 0,.int .i64 0,.int .i64 0] 88 (0,0)),sl 3 1 (.slice none 0 0) ((ofN []).length) (ints (ofN []))]) (M:=[]) hS
  refine O.val hf rfl rfl rfl (aA.move rfl) ?_
  clear hf a; intro a hf
  refine O.wY hf rfl rfl rfl (tY.call (av:=#[.pointer (some ⟨b_x3,0,none⟩),.slice none 0 0,.int .i64 ((0:Nat):Int)]) aCl rfl rfl rfl) (aB0 F b_x3 vl (.slice none 0 0) (.slice none 0 0) l [] 0 ([],0,0) _ (by omega) hl ok (by omega) (Nat.zero_le _) (by simp) (hS.rdB (j:=0) rfl) aFA (hS.aBV (i:=0) rfl) (hS.apart (i:=0) (j:=0) rfl rfl) (fun k_ h1_=>absurd h1_.1 (by decide))) ?_
  clear hf a
  rintro vb2 w4 hS1 a hf
  replace hf:Fr a _ _ ((19,.tuple #[])::_):=hf
  replace hS:=(hS.aCQ hS1 (i:=0) rfl (fun _ h=>h)).eqM (N:=[srA b_x3 vl vb2 (ofN (srch l F [] 0 ([],0,0)).1) (srch l F [] 0 ([],0,0)).2.1 (srch l F [] 0 ([],0,0)).2.2]) rfl
  clear hS1
  refine O.nil ?_
  obtain ⟨hs1,hs2,hgo⟩:=aDR l hl ok F hF
  rw [hs1,hs2] at hS
  replace hS:St w0 _ noX [rdE 4 E40 vl l] [pt b_x3 (.cells #[vl,vb2,.int .i64 ((cB l F 0 E0).2.2),.int .i64 ((srch l F [] 0 ([],0,0)).2.2)] 88 (0,0)),sl 3 1 vb2 ((ofN (tk (cB l F 0 E0))).length) (ints (ofN (tk (cB l F 0 E0))))]:=St.zZ (N:=[]) (l:=[pt b_x3 (.cells #[vl,vb2,.int .i64 ((cB l F 0 E0).2.2),.int .i64 ((srch l F [] 0 ([],0,0)).2.2)] 88 (0,0)),sl 3 1 vb2 ((ofN (tk (cB l F 0 E0))).length) (ints (ofN (tk (cB l F 0 E0))))]) (M:=[]) hS
  have hfl:=(vS l hl ok F 0 E0 (by omega) (by unfold Oke E0; omega)).len
  have htl:(tk (cB l F 0 E0)).length=(cB l F 0 E0).1.length:=by simp [tk]
  have hends:oK 8589934592 l (ofN (tk (cB l F 0 E0)))=some ((cB l F 0 E0).1,(cB l F 0 E0).2.1,true):=by rw [wO 8589934592 (by omega) l ok _ (by omega) (aC5 l _ _ _ hgo),hgo]
  refine aP ?_
  replace hf:Fr a 35 [] [(0,vl),(2,.slice none 0 0),(3,.int .i64 0),(4,.int .i64 0),(6,.pointer (some ⟨b_x3,0,none⟩))]:=hf.to ⟨rfl,rfl,rfl,rfl,rfl,trivial⟩
  refine W.seq ?_
  refine W.aU (l:=[0,1,2,3,4,5,6,7,8,9,10,11,12]) rfl ?_
  refine O.val hf rfl rfl rfl (aA.move rfl) ?_
  clear hf a; intro a hf
  refine O.val hf rfl rfl rfl (aA.move rfl) ?_
  clear hf a; intro a hf
  refine O.val hf rfl rfl rfl (aA.nilCheck rfl) ?_
  clear hf a; intro a hf
  refine O.val hf rfl rfl rfl (aA.field yI rfl rfl) ?_
  clear hf a; intro a hf
  refine O.val hf rfl rfl rfl (aA.aR aEl rfl (hS.wG (i:=0) rfl) rfl) ?_
  clear hf a; intro a hf
  refine O.wY hf rfl rfl rfl (tY.call (av:=#[vl,vb2]) zb rfl rfl rfl) (qm 8589934592 vl l vb2 (ofN (tk (cB l F 0 E0))) _ (hS.rdB (j:=0) rfl) (aCc (hS.slr (j:=1) rfl) ((hS.aGy (j:=1) rfl).fit)) ((cB l F 0 E0).1,(cB l F 0 E0).2.1,true) hends) ?_
  clear hf a
  rintro vx w5 hS1 a hf
  replace hf:Fr a _ _ ((26,.tuple #[vx,.int .i64 ((cB l F 0 E0).2.1),.bool true])::_):=hf
  replace hS:=(hS.call hS1).eqM (N:=[slE 85 2 E85 vx (cB l F 0 E0).1,pt b_x3 (.cells #[vl,vb2,.int .i64 ((cB l F 0 E0).2.2),.int .i64 ((srch l F [] 0 ([],0,0)).2.2)] 88 (0,0)),sl 3 1 vb2 ((ofN (tk (cB l F 0 E0))).length) (ints (ofN (tk (cB l F 0 E0))))]) rfl
  clear hS1
  refine O.val hf rfl rfl rfl (aA.move rfl) ?_
  clear hf a; intro a hf
  refine O.val hf rfl rfl rfl (aA.extract rfl rfl) ?_
  clear hf a; intro a hf
  refine O.val hf rfl rfl rfl (aA.extract rfl rfl) ?_
  clear hf a; intro a hf
  refine O.val hf rfl rfl rfl (aA.extract rfl rfl) ?_
  clear hf a; intro a hf
  refine O.val hf rfl rfl rfl (aA.assign rfl) ?_
  clear hf a; intro a hf
  refine O.val hf rfl rfl rfl (aA.assign rfl) ?_
  clear hf a; intro a hf
  refine O.val hf rfl rfl rfl (aA.assign rfl) ?_
  clear hf a; intro a hf
  refine O.nil ?_
  refine aP ?_
  replace hf:Fr a 35 [] [(2,.slice none 0 0),(3,.int .i64 0),(4,.int .i64 0),(6,.pointer (some ⟨b_x3,0,none⟩)),(7,vx)]:=hf.to ⟨rfl,rfl,rfl,rfl,rfl,trivial⟩
  refine W.seq ?_
  refine W.qh (fun w=>St w0 w noX [rdE 4 E40 vl l] [slE 85 2 E85 vx (cB l F 0 E0).1,pt b_x3 (.cells #[vl,vb2,.int .i64 ((cB l F 0 E0).2.2),.int .i64 ((srch l F [] 0 ([],0,0)).2.2)] 88 (0,0)),sl 3 1 vb2 ((ofN (tk (cB l F 0 E0))).length) (ints (ofN (tk (cB l F 0 E0))))]) bq rfl (by kernel_rfl) rfl hS.drew ?_
  clear hS
  refine OQ.val (v:=vx) hf rfl (fun w hS=>aA.move rfl) ?_; clear hf a; intro a hf
  refine OQ.val (v:=.pointer (some ⟨b_x3,0,none⟩)) hf rfl (fun w hS=>aA.move rfl) ?_; clear hf a; intro a hf
  refine OQ.val (v:=.pointer (some ⟨b_x3,0,none⟩)) hf rfl (fun w hS=>aA.nilCheck rfl) ?_; clear hf a; intro a hf
  refine OQ.val (v:=.pointer (some ⟨b_x3,2,none⟩)) hf rfl (fun w hS=>aA.field uE rfl rfl) ?_; clear hf a; intro a hf
  refine OQ.val (v:=.int .i64 ((cB l F 0 E0).2.2)) hf rfl (fun w hS=>aA.aR cu rfl (hS.wG (i:=1) rfl) rfl) ?_; clear hf a; intro a hf
  refine OQ.val (v:=vx) hf rfl (fun w hS=>aA.assign rfl) ?_; clear hf a; intro a hf
  refine OQ.val (v:=.int .i64 ((cB l F 0 E0).2.2)) hf rfl (fun w hS=>aA.assign rfl) ?_; clear hf a; intro a hf
  refine OQ.val (v:=.int .i64 0) hf rfl (fun w hS=>aA.assign rfl) ?_; clear hf a; intro a hf
  refine OQ.nil ?_; intro w hS
  refine aP ?_
  replace hf:Fr a 35 [] [(2,vx),(3,.int .i64 ((cB l F 0 E0).2.2)),(4,.int .i64 0)]:=hf.to ⟨rfl,rfl,rfl,trivial⟩
  refine W.ret ?_
  refine uo hf rfl (aJ.tmp rfl) (aJ.tmp rfl) (aJ.tmp rfl) ?_
  exact ⟨vx,rfl,(hS.sub (N:=[slE 85 2 E85 vx (cB l F 0 E0).1]) (.cons_cons _ (.cons _ (.cons _ .slnil)))).noB⟩
theorem zK (F:Nat) (s1:Value) (x2:List (Int × Int × Int × Int)) (w0:World) (h_s1:aV (hp w0) 4 E40 s1 x2) (r:(List (Int × Int)) × Int × Int) (hm:r9 F x2=some r) :
    Ret Tryz.prog 10 #[s1] w0 (G:=Value) (fun g1=>.tuple #[g1,Iv r.2.1,Iv r.2.2]) (fun g1 w=>St w0 w noX [] [slE 85 2 E85 g1 r.1]):=by
  unfold r9 at hm
  split at hm
  · rename_i hF
    obtain ⟨c,hc,h2⟩:=aDW F (by omega) x2
    rw [hc,Option.bind_some] at hm
    by_cases h0:c=0
    · subst h0
      rw [if_neg (by simp)] at hm
      obtain rfl:=Option.some.inj hm
      exact aFp F hF s1 x2 w0 hc (h2 rfl).1 (h2 rfl).2 h_s1
    · rw [if_pos h0] at hm
      obtain rfl:=Option.some.inj hm
      exact aDx F s1 x2 w0 c hc h0 h_s1
  · cases hm
end Go.Proofs.YtbccfconmcgfgaaGreat
