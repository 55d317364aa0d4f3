/- Part of a proof: laws and walks. -/
import Derived.Test.YtipfobacinmoiaaGreatTac
import Derived.Test.YtipfobacinmoiaaGreatTaf
import Derived.Test.YtipfobacinmoiaaGreatProg
import Derived.Test.YtipfobacinmoiaaGreatTab
import Derived.Test.YtipfobacinmoiaaGreatTah
import Derived.Test.YtipfobacinmoiaaGreatTaj
import Derived.Test.YtipfobacinmoiaaGreatTad
set_option linter.unusedVariables false
set_option linter.unusedSimpArgs false
set_option maxHeartbeats 1000000
set_option maxRecDepth 8000
namespace Go.Proofs.YtipfobacinmoiaaGreat
open Go Go.SL Go.Shelf Go.RowKit Go.Maps
theorem qE:aX Tryz.prog 113=true:=by kernel_rfl
theorem aBK:aX Tryz.prog 119=true:=by kernel_rfl
theorem aAh:aX Tryz.prog 120=true:=by kernel_rfl
theorem aA2:aX Tryz.prog 121=true:=by kernel_rfl
theorem aAc:aX Tryz.prog 122=true:=by kernel_rfl
theorem aA8:aX Tryz.prog 123=true:=by kernel_rfl
theorem aBq:aX Tryz.prog 124=true:=by kernel_rfl
theorem aBj:aX Tryz.prog 125=true:=by kernel_rfl
theorem aBE:aX Tryz.prog 126=true:=by kernel_rfl
theorem uy:aX Tryz.prog 128=true:=by kernel_rfl
theorem pE:aX Tryz.prog 129=true:=by kernel_rfl
theorem qN:aX Tryz.prog 130=true:=by kernel_rfl
theorem qD:aX Tryz.prog 131=true:=by kernel_rfl
theorem tX:aX Tryz.prog 32=true:=by kernel_rfl
theorem yt:aX Tryz.prog 39=true:=by kernel_rfl
theorem yC:aX Tryz.prog 40=true:=by kernel_rfl
theorem aC8:aX Tryz.prog 55=true:=by kernel_rfl
theorem yj:aX Tryz.prog 56=true:=by kernel_rfl
theorem dX:aX Tryz.prog 60=true:=by kernel_rfl
theorem yY:aX Tryz.prog 62=true:=by kernel_rfl
theorem aC6:aX Tryz.prog 96=true:=by kernel_rfl
theorem aCG:aX Tryz.prog 97=true:=by kernel_rfl
theorem zQ:qZ Tryz.prog 130=some .u64:=by kernel_rfl
theorem aCe:qZ Tryz.prog 3=some .i64:=by kernel_rfl
theorem aBy:qZ Tryz.prog 93=some .u64:=by kernel_rfl
theorem wR:cO Tryz.prog 130=some 1:=by kernel_rfl
theorem yo:(Tryz.prog.underlying 3).isSome=true:=by kernel_rfl
theorem aBv:(Tryz.prog.underlying 93).isSome=true:=by kernel_rfl
theorem wW:dx Tryz.prog 130=some (.int .u64 0):=by kernel_rfl
set_option maxHeartbeats 1000000 in
set_option maxRecDepth 4000 in
theorem aEx (x:Int) (w0:World) :
    Ret Tryz.prog 56 #[iV x] w0 (G:=Unit) (fun _=>.bool false) (fun _ w=>St w0 w noX [] []):=by
  refine aR (lv:=[iV x]) Tryz.func56 rfl rfl rfl (fun a hf=>?_); replace hf:Fr a 6 [] [(0,iV x)]:=hf; have hS:St w0 w0 noX [] []:=St.refl w0; refine W.seq ?_
  refine R1 rfl<|mv hf rfl<|fun a hf=>?_; refine nk<|W.seq<|?_
  refine R4 rfl<|mv hf rfl<|fun a hf=>mv hf rfl fun a hf=>ov (v:=.bool (decide (x≠(x:Int)))) hf rfl (aA.neq rfl rfl) fun a hf=>mv hf rfl fun a hf=>?_; refine nk<|W.ret<|bH hf rfl (aO.tmp rfl)<|?_; exact ⟨(),by simp,hS.sub (List.nil_sublist _) |>.noB⟩
set_option maxHeartbeats 1000000 in
set_option maxRecDepth 4000 in
theorem aAs (x y:Int) (w0:World) :
    Ret Tryz.prog 32 #[iV x,iV y] w0 (G:=Unit) (fun _=>iV (Det.eY x y)) (fun _ w=>St w0 w noX [] []):=by
  refine aR (lv:=[iV x,iV y]) Tryz.func32 rfl rfl rfl (fun a hf=>?_); replace hf:Fr a 20 [] [(0,iV x),(1,iV y)]:=hf; have hS:St w0 w0 noX [] []:=St.refl w0; refine W.seq ?_
  refine R1 rfl<|mv hf rfl<|fun a hf=>?_; refine nk<|W.seq<|?_
  refine R3 rfl<|mv hf rfl<|fun a hf=>?_; refine oc hf rfl yj (aEx x _) ?_; clear hf a; rintro _ w1 hS1 a hf; replace hS:=hS.cl hS1; refine mv hf rfl fun a hf=>?_; refine nk<|W.seq<|?_
  refine R3 rfl<|mv hf rfl<|fun a hf=>?_; refine oc hf rfl yj (aEx y _) ?_; clear hf a; rintro _ w2 hS1 a hf; replace hS:=hS.cl hS1; refine mv hf rfl fun a hf=>?_; refine nk<|W.seq<|W.seq<|?_
  refine R1 rfl<|mv hf rfl<|fun a hf=>?_; refine nk<|W.jI hf rfl<|W.skip<|aF<|W.seq<|W.seq<|?_
  refine R1 rfl<|mv hf rfl<|fun a hf=>?_; refine nk<|W.jI hf rfl<|W.skip<|aF<|W.seq<|W.seq<|?_
  refine R3 rfl<|mv hf rfl<|fun a hf=>mv hf rfl fun a hf=>ov (v:=.bool (decide (x<(y:Int)))) hf rfl (aA.lss rfl rfl) fun a hf=>?_; refine nk ?_; refine W.bJ hf rfl (fun h1=>?_) (fun h1=>?_)
  · refine W.seq ?_
    refine R1 rfl<|mv hf rfl<|fun a hf=>?_; refine nk<|W.ret<|aK<|bH hf rfl (aO.tmp rfl)<|?_; exact ⟨(),by unfold Det.eY; first | rw [if_pos h1] | rw [if_neg h1,if_pos h2] | rw [if_neg h1,if_neg h2],hS.sub (List.nil_sublist _) |>.noB⟩
  · refine W.skip ?_
    refine aF<|W.seq<|W.seq<|?_
    refine R3 rfl<|mv hf rfl<|fun a hf=>mv hf rfl fun a hf=>ov (v:=.bool (decide (x>(y:Int)))) hf rfl (aA.gtr rfl rfl) fun a hf=>?_; refine nk ?_; refine W.bJ hf rfl (fun h2=>?_) (fun h2=>?_)
    · refine W.seq ?_
      refine R1 rfl<|mv hf rfl<|fun a hf=>?_; refine nk<|W.ret<|aK<|bH hf rfl (aO.tmp rfl)<|?_; exact ⟨(),by unfold Det.eY; first | rw [if_pos h1] | rw [if_neg h1,if_pos h2] | rw [if_neg h1,if_neg h2],hS.sub (List.nil_sublist _) |>.noB⟩
    · refine W.skip ?_
      refine aF<|W.seq<|?_
      refine R1 rfl<|mv hf rfl<|fun a hf=>?_; refine nk<|W.ret<|bH hf rfl (aO.tmp rfl)<|?_; exact ⟨(),by unfold Det.eY; first | rw [if_pos h1] | rw [if_neg h1,if_pos h2] | rw [if_neg h1,if_neg h2],hS.sub (List.nil_sublist _) |>.noB⟩
set_option maxHeartbeats 1000000 in
set_option maxRecDepth 4000 in
theorem aEt (x:Int) (w0:World) :
    Ret Tryz.prog 62 #[iV x] w0 (G:=Unit) (fun _=>.bool false) (fun _ w=>St w0 w noX [] []):=by
  refine aR (lv:=[iV x]) Tryz.func62 rfl rfl rfl (fun a hf=>?_); replace hf:Fr a 6 [] [(0,iV x)]:=hf; have hS:St w0 w0 noX [] []:=St.refl w0; refine W.seq ?_
  refine R1 rfl<|mv hf rfl<|fun a hf=>?_; refine nk<|W.seq<|?_
  refine R4 rfl<|mv hf rfl<|fun a hf=>mv hf rfl fun a hf=>ov (v:=.bool (decide (x≠(x:Int)))) hf rfl (aA.neq rfl rfl) fun a hf=>mv hf rfl fun a hf=>?_; refine nk<|W.ret<|bH hf rfl (aO.tmp rfl)<|?_; exact ⟨(),by simp,hS.sub (List.nil_sublist _) |>.noB⟩
set_option maxHeartbeats 1000000 in
set_option maxRecDepth 4000 in
theorem aDR (x y:Int) (w0:World) :
    Ret Tryz.prog 40 #[iV x,iV y] w0 (G:=Unit) (fun _=>iV (Det.eY x y)) (fun _ w=>St w0 w noX [] []):=by
  refine aR (lv:=[iV x,iV y]) Tryz.func40 rfl rfl rfl (fun a hf=>?_); replace hf:Fr a 20 [] [(0,iV x),(1,iV y)]:=hf; have hS:St w0 w0 noX [] []:=St.refl w0; refine W.seq ?_
  refine R1 rfl<|mv hf rfl<|fun a hf=>?_; refine nk<|W.seq<|?_
  refine R3 rfl<|mv hf rfl<|fun a hf=>?_; refine oc hf rfl yY (aEt x _) ?_; clear hf a; rintro _ w1 hS1 a hf; replace hS:=hS.cl hS1; refine mv hf rfl fun a hf=>?_; refine nk<|W.seq<|?_
  refine R3 rfl<|mv hf rfl<|fun a hf=>?_; refine oc hf rfl yY (aEt y _) ?_; clear hf a; rintro _ w2 hS1 a hf; replace hS:=hS.cl hS1; refine mv hf rfl fun a hf=>?_; refine nk<|W.seq<|W.seq<|?_
  refine R1 rfl<|mv hf rfl<|fun a hf=>?_; refine nk<|W.jI hf rfl<|W.skip<|aF<|W.seq<|W.seq<|?_
  refine R1 rfl<|mv hf rfl<|fun a hf=>?_; refine nk<|W.jI hf rfl<|W.skip<|aF<|W.seq<|W.seq<|?_
  refine R3 rfl<|mv hf rfl<|fun a hf=>mv hf rfl fun a hf=>ov (v:=.bool (decide (x<(y:Int)))) hf rfl (aA.lss rfl rfl) fun a hf=>?_; refine nk ?_; refine W.bJ hf rfl (fun h1=>?_) (fun h1=>?_)
  · refine W.seq ?_
    refine R1 rfl<|mv hf rfl<|fun a hf=>?_; refine nk<|W.ret<|aK<|bH hf rfl (aO.tmp rfl)<|?_; exact ⟨(),by unfold Det.eY; first | rw [if_pos h1] | rw [if_neg h1,if_pos h2] | rw [if_neg h1,if_neg h2],hS.sub (List.nil_sublist _) |>.noB⟩
  · refine W.skip ?_
    refine aF<|W.seq<|W.seq<|?_
    refine R3 rfl<|mv hf rfl<|fun a hf=>mv hf rfl fun a hf=>ov (v:=.bool (decide (x>(y:Int)))) hf rfl (aA.gtr rfl rfl) fun a hf=>?_; refine nk ?_; refine W.bJ hf rfl (fun h2=>?_) (fun h2=>?_)
    · refine W.seq ?_
      refine R1 rfl<|mv hf rfl<|fun a hf=>?_; refine nk<|W.ret<|aK<|bH hf rfl (aO.tmp rfl)<|?_; exact ⟨(),by unfold Det.eY; first | rw [if_pos h1] | rw [if_neg h1,if_pos h2] | rw [if_neg h1,if_neg h2],hS.sub (List.nil_sublist _) |>.noB⟩
    · refine W.skip ?_
      refine aF<|W.seq<|?_
      refine R1 rfl<|mv hf rfl<|fun a hf=>?_; refine nk<|W.ret<|bH hf rfl (aO.tmp rfl)<|?_; exact ⟨(),by unfold Det.eY; first | rw [if_pos h1] | rw [if_neg h1,if_pos h2] | rw [if_neg h1,if_neg h2],hS.sub (List.nil_sublist _) |>.noB⟩
set_option maxHeartbeats 1000000 in
set_option maxRecDepth 4000 in
theorem rq (vl:Value) (l:List Int) (w0:World) (hl:aQ (hp w0) 1 vl l.length (ints l)) :
    Ret Tryz.prog 39 #[vl] w0 (G:=Unit) (fun _=>iV (Det.orM l)) (fun _ w=>St w0 w noX [] []):=by
  refine aR (lv:=[vl]) Tryz.func39 rfl rfl rfl (fun a hf=>?_); replace hf:Fr a 18 [] [(0,vl)]:=hf; have hS:St w0 w0 noX [rI vl l] []:=(St.refl w0).bO hl; have hlm:=hl.2.1; unfold maxLen at hlm; refine W.seq ?_
  refine R1 rfl<|mv hf rfl<|fun a hf=>?_; refine nk<|W.seq<|?_
  refine R1 rfl<|mv hf rfl<|fun a hf=>?_; refine nk<|W.seq<|W.seq<|?_
  refine R3 rfl<|mv hf rfl<|fun a hf=>ov hf rfl (aA.bP (e:=3) (by simpa using aB) rfl (hS.aL (j:=0) rfl)) fun a hf=>mv hf rfl fun a hf=>?_; refine nk ?_; replace hf:Fr a 18 [] [(2,_),(3,_),(6,_),(7,_),(8,_)]:=hf.q rfl; refine W.block ?_
  refine W.loop (G:=(Nat)) (fun g a w=>match g with | k=>Fr a 18 [] [(3,iV 0),(6,vl),(7,iV (l.length:Int)),(8,iV k)]∧St w0 w noX [rI vl l] []∧(k≤l.length)∧(∀ i,i<k→l.getD i 0=0)) (fun g=>match g with | k=>l.length-k) 0 ?_ ?_
  · refine ⟨hf.to ⟨rfl,rfl,rfl,(by first | rfl | exact vI (by omega)),trivial⟩,hS,?_,?_⟩
    · omega
    · exact fun j hj=>by omega
  clear hf hS a; rintro k a w ⟨hf,hS,h1,h2⟩; refine W.seq ?_
  refine R1 rfl<|ov (v:=.bool (decide ((k:Int)<((l.length:Int):Int)))) hf rfl (aA.lss rfl rfl)<|fun a hf=>?_; refine nk<|W.seq<|?_; refine W.bJ hf rfl (fun hk=>?_) (fun hk=>?_)
  · refine W.skip ?_
    refine aF<|W.seq<|W.block<|W.seq<|?_
    refine R3 rfl<|ov hf rfl (aA.ixV (j:=k) (m:=k) aB aD rfl rfl (hS.aL (j:=0) rfl) rfl (by omega) (Nat.mul_one _))<|fun a hf=>ov hf rfl (aA.ld1 aH rfl (hS.aL (j:=0) rfl) (aI (by omega))) fun a hf=>mv hf rfl fun a hf=>?_; refine nk<|W.seq<|?_
    refine R3 rfl<|mv hf rfl<|fun a hf=>mv hf rfl fun a hf=>ov (v:=.bool (decide ((l.getD k 0)≠(0:Int)))) hf rfl (aA.neq rfl rfl) fun a hf=>?_; refine nk ?_; refine W.bJ hf rfl (fun hne=>?_) (fun hne=>?_)
    · refine W.seq ?_
      refine R2 rfl<|mv hf rfl<|fun a hf=>mv hf rfl fun a hf=>?_; refine nk<|W.ret<|aW<|aK<|aK<|aW<|aK<|bH hf rfl (aO.tmp rfl)<|?_; exact ⟨(),by rw [Det.xh h2 (by omega) hne],hS.sub (List.nil_sublist _) |>.noB⟩
    · refine W.skip ?_
      refine aG<|aF<|?_
      refine R2 rfl<|ov hf rfl (aA.ak rfl rfl (by omega))<|fun a hf=>mv hf rfl fun a hf=>?_; refine O.nil ?_; refine aS ⟨(k+1),⟨hf.to ⟨rfl,rfl,rfl,(by first | rfl | exact vI (by omega)),trivial⟩,?_,?_,?_⟩,?_⟩
      · exact hS.eqM rfl
      · omega
      · exact Det.fV h2 (by omega)
      · dsimp only; omega
  · refine W.exit ?_
    refine aC<|aC<|bD<|aF<|W.seq<|?_
    refine R2 rfl<|mv hf rfl<|fun a hf=>mv hf rfl fun a hf=>?_; refine nk<|W.ret<|bH hf rfl (aO.tmp rfl)<|?_; exact ⟨(),by rw [Det.uL (fun i hi=>h2 i (by omega))],hS.sub (List.nil_sublist _) |>.noB⟩
set_option maxHeartbeats 1000000 in
set_option maxRecDepth 4000 in
theorem au (fW fH x y:Int) (vP:Value) (zs:List Int) (w0:World) (hx:0≤x∧x<(zs.length:Int)) (hy:0≤y∧y<(zs.length:Int)) (hP:aQ (hp w0) 1 vP zs.length (ints zs)) :
    Ret Tryz.prog 60 #[(fG fW fH vP),iV x,iV y] w0 (G:=Unit) (fun _=>iV (Det.cfP zs x y)) (fun _ w=>St w0 w noX [] []):=by
  refine aR (lv:=[(fG fW fH vP),iV x,iV y]) Tryz.func60 rfl rfl rfl (fun a hf=>?_); replace hf:Fr a 25 [] [(0,(fG fW fH vP)),(1,iV x),(2,iV y)]:=hf; have hS:St w0 w0 noX [rI vP zs] []:=(St.refl w0).bO hP; have hlen:=hP.2.1; unfold maxLen at hlen; refine W.seq ?_
  refine R2 rfl<|O.box (cs:=#[iV fW,iV fH,vP]) hf hS rfl rfl rfl rfl<|?_; intro b_m1 w a hbb_m1 hS hf; refine mv hf rfl fun a hf=>?_; refine nk ?_; replace hf:Fr a 25 [] [(1,_),(2,_),(3,_),(6,_)]:=hf.q rfl; refine W.seq ?_
  refine W.xw (l₂:=[16,17,18]) (fun w=>St w0 w noX [rI vP zs] [pt b_m1 (.cells #[iV fW,iV fH,vP] 61 (0,0))]) 16 aV rfl rfl rfl (by kernel_rfl) hS.drew ?_; clear hS; refine OQ.val (v:=(pp b_m1)) hf rfl (fun w hS=>aA.field dI rfl rfl) fun a hf=>OQ.val (v:=.pointer (some ⟨b_m1,2,none⟩)) hf rfl (fun w hS=>aA.field aP rfl rfl) fun a hf=>OQ.val (v:=vP) hf rfl (fun w hS=>aA.aT bB rfl (hS.p 0 rfl) rfl) fun a hf=>q0 hf rfl rfl fun a hf=>OQ.val (v:=ix vP (Int.toNat y)) hf rfl (fun w hS=>aA.ixV (j:=(Int.toNat y)) (m:=(Int.toNat y)) aN bE rfl rfl (hS.aL (j:=0) rfl) (by rw [Int.toNat_of_nonneg (by omega)]) (by omega) (Nat.mul_one _)) fun a hf=>OQ.val (v:=iV (zs.getD (Int.toNat y) 0)) hf rfl (fun w hS=>aA.ld1 bT rfl (hS.aL (j:=0) rfl) (aI (by omega))) fun a hf=>OQ.val (v:=(pp b_m1)) hf rfl (fun w hS=>aA.field dI rfl rfl) fun a hf=>OQ.val (v:=.pointer (some ⟨b_m1,2,none⟩)) hf rfl (fun w hS=>aA.field aP rfl rfl) fun a hf=>OQ.val (v:=vP) hf rfl (fun w hS=>aA.aT bB rfl (hS.p 0 rfl) rfl) fun a hf=>q0 hf rfl rfl fun a hf=>OQ.val (v:=ix vP (Int.toNat x)) hf rfl (fun w hS=>aA.ixV (j:=(Int.toNat x)) (m:=(Int.toNat x)) aN bE rfl rfl (hS.aL (j:=0) rfl) (by rw [Int.toNat_of_nonneg (by omega)]) (by omega) (Nat.mul_one _)) fun a hf=>OQ.val (v:=iV (zs.getD (Int.toNat x) 0)) hf rfl (fun w hS=>aA.ld1 bT rfl (hS.aL (j:=0) rfl) (aI (by omega))) fun a hf=>OQ.gT (v:=iV (Det.eY (zs.getD (Int.toNat y) 0) (zs.getD (Int.toNat x) 0))) hf rfl (fun w hS=>dS.call (av:=#[iV (zs.getD (Int.toNat y) 0),iV (zs.getD (Int.toNat x) 0)]) yC rfl rfl rfl) (fun w hS=>aDR (zs.getD (Int.toNat y) 0) (zs.getD (Int.toNat x) 0) _) fun a hf=>q0 hf rfl rfl fun a hf=>q0 hf rfl rfl fun a hf=>OQ.gT (v:=iV (Det.eY x y)) hf rfl (fun w hS=>dS.call (av:=#[iV x,iV y]) tX rfl rfl rfl) (fun w hS=>aAs x y _) fun a hf=>?_; refine OQ.nil ?_; intro w hS; refine O.buildSlice (cs':=#[iV (Det.eY (zs.getD (Int.toNat y) 0) (zs.getD (Int.toNat x) 0)),iV (Det.eY x y)]) (zs:=#[iV 0,iV 0]) hf hS rfl rfl aB aD bY rfl rfl rfl rfl rfl ?_; intro b_s2 w a hbb_s2 hS hf; refine oc hf rfl yt (rq (.slice (some ⟨b_s2,0,none⟩) 2 2) [Det.eY (zs.getD y.toNat 0) (zs.getD x.toNat 0),Det.eY x y] _ (hS.jL (j:=0) rfl (by decide) rfl rfl)) ?_; clear hf a; rintro _ w3 hS1 a hf; replace hS:=hS.cl hS1; refine mv hf rfl fun a hf=>?_; refine nk<|W.ret<|bH hf rfl (aO.tmp rfl)<|?_; exact ⟨(),rfl,hS.sub (List.nil_sublist _) |>.noB⟩
set_option maxHeartbeats 1000000 in
set_option maxRecDepth 4000 in
theorem aDX (N lo hi:Nat) (vX vP:Value) (l zs:List Int) (fW fH:Int) (w0:World) (hN:N≤100000) (hl:l.length=N) (hr:Det.InR zs.length l) (hP:aQ (hp w0) 1 vP zs.length (ints zs)) (hsep:∀ b,0<zs.length→vP.ownBlock=some b→¬ vX.ownBlock=some b) (hX:dZ (hp w0) 3 1 vX N (ints l)) (hab:lo≤hi) (hb:hi≤N) :
    Ret Tryz.prog 119 #[vX,iV lo,iV hi,(fB 60 fW fH vP)] w0 (G:=List Int) (fun _=>.tuple #[]) (fun l' w=>St w0 w (oB vX) [] [sl 3 1 vX N (ints l')]∧(Go.Sort.insertionSort (Det.ltP zs) l.toArray lo hi=l'.toArray)∧l'.length=N∧Det.InR zs.length l'):=by
  refine aR (lv:=[vX,iV lo,iV hi,(fB 60 fW fH vP)]) Tryz.func119 rfl rfl rfl (fun a hf=>?_); replace hf:Fr a 53 [] [(0,vX),(1,iV lo),(2,iV hi),(3,(fB 60 fW fH vP))]:=hf; have hS:St w0 w0 (oB vX) [rI vP zs] [sl 3 1 vX N (ints l)]:=(St.own hX).lend hP hsep; refine W.seq ?_
  refine R3 rfl<|mv hf rfl<|fun a hf=>ov hf rfl (aA.ak rfl rfl (by omega)) fun a hf=>mv hf rfl fun a hf=>?_; refine nk ?_; replace hf:Fr a 53 [] [(0,_),(1,_),(2,_),(3,_),(8,_)]:=hf.q rfl; refine W.block ?_
  refine W.loop (G:=(Nat) × (List Int)) (fun g a w=>match g with | (i,l1)=>Fr a 53 [] [(0,vX),(1,iV lo),(2,iV hi),(3,(fB 60 fW fH vP)),(8,iV i)]∧St w0 w (oB vX) [rI vP zs] [sl 3 1 vX N (ints l1)]∧(lo+1≤i)∧(i≤hi∨i=lo+1)∧(l1.length=N)∧(Det.InR zs.length l1)∧(Go.Sort.insOuter (Det.ltP zs) lo hi i l1.toArray=Go.Sort.insertionSort (Det.ltP zs) l.toArray lo hi)) (fun g=>match g with | (i,l1)=>hi-i) ((lo+1),l) ?_ ?_
  · refine ⟨hf.to ⟨rfl,rfl,rfl,rfl,(by first | rfl | exact vI (by omega)),trivial⟩,hS,?_,?_,?_,?_,?_⟩
    · omega
    · omega
    · exact hl
    · exact hr
    · rfl
  clear hf hS a; rintro ⟨i,l1⟩ a w ⟨hf,hS,h0,h1,hl1,hr1,he⟩; refine W.seq<|W.seq<|?_
  refine R3 rfl<|mv hf rfl<|fun a hf=>mv hf rfl fun a hf=>ov (v:=.bool (decide ((i:Int)<((hi:Int):Int)))) hf rfl (aA.lss rfl rfl) fun a hf=>?_; refine nk ?_; refine W.bJ hf rfl (fun hci=>?_) (fun hci=>?_)
  · refine W.skip ?_
    refine aF<|W.seq<|W.block<|W.seq<|?_
    refine R2 rfl<|mv hf rfl<|fun a hf=>mv hf rfl fun a hf=>?_; refine nk ?_; replace hf:Fr a 53 [] [(0,_),(1,_),(2,_),(3,_),(8,_),(9,_)]:=hf.q rfl; refine W.block ?_
    refine W.loop (G:=(Nat) × (List Int)) (fun g a w=>match g with | (j,l2)=>Fr a 53 [] [(0,vX),(1,iV lo),(2,iV hi),(3,(fB 60 fW fH vP)),(8,iV i),(9,iV j)]∧St w0 w (oB vX) [rI vP zs] [sl 3 1 vX N (ints l2)]∧(j≤i)∧(l2.length=N)∧(Det.InR zs.length l2)∧(Go.Sort.insInner (Det.ltP zs) lo j l2.toArray=Go.Sort.insInner (Det.ltP zs) lo i l1.toArray)) (fun g=>match g with | (j,l2)=>j) (i,l1) ?_ ?_
    · refine ⟨hf.to ⟨rfl,rfl,rfl,rfl,rfl,(by first | rfl | exact vI (by omega)),trivial⟩,hS,?_,?_,?_,?_⟩
      · omega
      · exact hl1
      · exact hr1
      · rfl
    clear hf hS a; rintro ⟨j,l2⟩ a w ⟨hf,hS,h2,hl2,hr2,hf2⟩; refine W.seq<|W.seq<|?_
    refine W.dY (fun w=>St w0 w (oB vX) [rI vP zs] [sl 3 1 vX N (ints l2)]) aV rfl (by kernel_rfl) rfl hS.drew ?_; clear hS; refine q0 hf rfl rfl fun a hf=>q0 hf rfl rfl fun a hf=>OQ.val (v:=.bool (decide ((j:Int)>((lo:Int):Int)))) hf rfl (fun w hS=>aA.gtr rfl rfl) fun a hf=>q0 hf rfl rfl fun a hf=>?_
    refine OQ.ji (K':=fun a=>Fr a 53 [] [(0,vX),(1,iV lo),(2,iV hi),(3,(fB 60 fW fH vP)),(8,iV i),(9,iV j),(34,.bool ((decide ((j:Int)>((lo:Int):Int)))&&(decide ((Det.cfP zs (l2.getD j 0) (l2.getD (j-1) 0))<(0:Int)))))]) 13 ?_ ?_
    · rcases Bool.eq_false_or_eq_true (decide ((j:Int)>((lo:Int):Int))) with hb2 | hb2
      · have hb2p:=of_decide_eq_true hb2
        refine gm hf rfl rfl hb2 rfl rfl fun a hf=>gm hf rfl rfl hb2 rfl rfl fun a hf=>gm hf rfl rfl hb2 rfl rfl fun a hf=>OQ.gval (v:=ix vX j) hf rfl rfl hb2 rfl (fun w hS=>aA.ixV (j:=j) (m:=j) aB aD rfl rfl (hS.slr (j:=0) rfl) rfl (by omega) (Nat.mul_one _)) fun a hf=>OQ.gval (v:=iV (l2.getD j 0)) hf rfl rfl hb2 rfl (fun w hS=>aA.ld1 aH rfl (hS.slr (j:=0) rfl) (aI (by omega))) fun a hf=>gm hf rfl rfl hb2 rfl rfl fun a hf=>gm hf rfl rfl hb2 rfl rfl fun a hf=>OQ.gval (v:=iV ((j:Int)-1)) hf rfl rfl hb2 rfl (fun w hS=>aA.cZ rfl rfl (by omega)) fun a hf=>OQ.gval (v:=ix vX (j-1)) hf rfl rfl hb2 rfl (fun w hS=>aA.ixV (j:=(j-1)) (m:=(j-1)) aB aD rfl rfl (hS.slr (j:=0) rfl) (by omega) (by omega) (Nat.mul_one _)) fun a hf=>OQ.gval (v:=iV (l2.getD (j-1) 0)) hf rfl rfl hb2 rfl (fun w hS=>aA.ld1 aH rfl (hS.slr (j:=0) rfl) (aI (by omega))) fun a hf=>?_; refine OQ.gV (v:=iV (Det.cfP zs (l2.getD j 0) (l2.getD (j-1) 0))) hf rfl rfl hb2 rfl (fun w hS=>dS.call (av:=#[(fG fW fH vP),iV (l2.getD j 0),iV (l2.getD (j-1) 0)]) dX rfl rfl rfl) (fun w hS=>au fW fH (l2.getD j 0) (l2.getD (j-1) 0) vP zs _ (hr2.at (by omega)) (hr2.at (by omega)) (hS.aL (j:=0) rfl)) fun a hf=>OQ.gval (v:=.bool (decide ((Det.cfP zs (l2.getD j 0) (l2.getD (j-1) 0))<(0:Int)))) hf rfl rfl hb2 rfl (fun w hS=>aA.lss rfl rfl) fun a hf=>?_; refine OQ.val (v:=.bool ((decide ((j:Int)>((lo:Int):Int)))&&(decide ((Det.cfP zs (l2.getD j 0) (l2.getD (j-1) 0))<(0:Int))))) hf rfl (fun w hS=>aA.pick rfl rfl rfl (by rw [hb2]; rfl)) fun a hf=>?_; exact OQ.nil (hf.q rfl)
      · have hb2p:=of_decide_eq_false hb2
        refine OQ.aJ hf rfl rfl hb2 rfl fun a hf=>OQ.aJ hf rfl rfl hb2 rfl fun a hf=>OQ.aJ hf rfl rfl hb2 rfl fun a hf=>OQ.aJ hf rfl rfl hb2 rfl fun a hf=>OQ.aJ hf rfl rfl hb2 rfl fun a hf=>OQ.aJ hf rfl rfl hb2 rfl fun a hf=>OQ.aJ hf rfl rfl hb2 rfl fun a hf=>OQ.aJ hf rfl rfl hb2 rfl fun a hf=>OQ.aJ hf rfl rfl hb2 rfl fun a hf=>OQ.aJ hf rfl rfl hb2 rfl fun a hf=>OQ.aJ hf rfl rfl hb2 rfl fun a hf=>OQ.aJ hf rfl rfl hb2 rfl fun a hf=>?_; refine OQ.val (v:=.bool ((decide ((j:Int)>((lo:Int):Int)))&&(decide ((Det.cfP zs (l2.getD j 0) (l2.getD (j-1) 0))<(0:Int))))) hf rfl (fun w hS=>aA.pick rfl rfl rfl (by rw [hb2]; rfl)) fun a hf=>?_; exact OQ.nil (hf.q rfl)
    clear hf a; intro a hf; refine OQ.nil ?_; intro w hS; refine aF ?_; refine W.if_ hf rfl (fun hc=>?_) (fun hc=>?_)
    · have hcb:=hc
      try simp only [bsm] at hc
      refine W.skip<|aF<|W.seq<|W.block<|?_
      have hf1:Fr a 53 [] []:=hf.to trivial; replace hf:Fr a 53 [] [(0,_),(1,_),(2,_),(3,_),(8,_),(9,_)]:=hf.q rfl
      let LZ695:List (Nat × Value):=[(0,vX),(1,iV lo),(2,iV hi),(3,(fB 60 fW fH vP)),(8,iV i),(9,iV j)]
      refine W.dn (γ:=Unit) (L0:=LZ695) (L1:=[]) () [15,17] [] [0,1,2,3,4,5,6,7,8,9,10,11,12,13,14,16] (fun i_=>match i_ with | 4=>[3] | 7=>[6] | 8=>[5,7] | 9=>[8] | 12=>[10,11] | 13=>[12] | 14=>[0,1] | 15=>[9,14] | 16=>[2,4] | 17=>[13,16] | _=>[]) (fun _=>[]) (fun i_=>match i_ with | 15=>[16,17] | _=>[]) (fun _=>[]) (fun i_=>match i_ with | 16=>1 | 17=>1 | _=>0) (fun i_=>match i_ with | 2=>1 | 3=>1 | 4=>1 | 15=>1 | 16=>1 | 17=>2 | _=>0) (fun (g:Unit) j_=>match g,j_ with | _,0=>vX | _,1=>iV j | _,2=>vX | _,3=>iV j | _,4=>iV ((j:Int)-1) | _,5=>vX | _,6=>iV j | _,7=>iV ((j:Int)-1) | _,8=>ix vX (j-1) | _,9=>iV (l2.getD (j-1) 0) | _,10=>vX | _,11=>iV j | _,12=>ix vX j | _,13=>iV (l2.getD j 0) | _,14=>ix vX j | _,16=>ix vX (j-1) | _,_=>undef) (fun k_ (_:Nat→Bool) (g:Unit) w=>match k_,g with | 0,_=>St w0 w (oB vX) [rI vP zs] [sl 3 1 vX N (ints l2)] | 1,_=>St w0 w (oB vX) [rI vP zs] [sl 3 1 vX N (ints (l2.set j (l2.getD (j-1) 0)))] | _,_=>St w0 w (oB vX) [rI vP zs] [sl 3 1 vX N (ints ((l2.set j (l2.getD (j-1) 0)).set (j-1) (l2.getD j 0)))]) aV (by kernel_rfl) (by kernel_rfl) (by kernel_rfl) hf hf1 hS.drew ?_ ?_ trivial ?_
      · clear hf hf1 hS
        refine ⟨?_,?_,?_,?_,?_,?_,?_,?_,?_,?_,?_,?_,?_,?_,?_,?_,trivial⟩
        · exact qq fun _=>rfl
        · exact qq fun _=>rfl
        · exact qq fun _=>rfl
        · exact qq fun _=>rfl
        · exact fun _ _ _ _ _ _ _ hD _ hf=>qv hf rfl (aA.cZ rfl rfl (by omega)) hD
        · exact qq fun _=>rfl
        · exact qq fun _=>rfl
        · exact fun _ _ _ _ _ _ _ hD _ hf=>qv hf rfl (aA.cZ rfl rfl (by omega)) hD
        · exact s1 (fun _ _ _ _ hD _ hf=>qv hf rfl (aA.ixV (j:=(j-1)) (m:=(j-1)) aB aD rfl rfl (hD.slr (j:=0) rfl) (by omega) (by omega) (Nat.mul_one _)) hD) rfl
        · exact s1 (fun _ _ _ _ hD _ hf=>qv hf rfl (aA.ld1 aH rfl (hD.slr (j:=0) rfl) (aI (by omega))) hD) rfl
        · exact qq fun _=>rfl
        · exact qq fun _=>rfl
        · exact s1 (fun _ _ _ _ hD _ hf=>qv hf rfl (aA.ixV (j:=j) (m:=j) aB aD rfl rfl (hD.slr (j:=0) rfl) rfl (by omega) (Nat.mul_one _)) hD) rfl
        · exact s1 (fun _ _ _ _ hD _ hf=>qv hf rfl (aA.ld1 aH rfl (hD.slr (j:=0) rfl) (aI (by omega))) hD) rfl
        · exact s1 (fun _ _ _ _ hD _ hf=>qv hf rfl (aA.ixV (j:=j) (m:=j) aB aD rfl rfl (hD.slr (j:=0) rfl) rfl (by omega) (Nat.mul_one _)) hD) rfl
        · exact s1 (fun _ _ _ _ hD _ hf=>qv hf rfl (aA.ixV (j:=(j-1)) (m:=(j-1)) aB aD rfl rfl (hD.slr (j:=0) rfl) (by omega) (by omega) (Nat.mul_one _)) hD) rfl
      · clear hf hf1 hS
        refine ⟨?_,?_,trivial⟩
        · intro s_ g w _ hD a hf
          have hS:=hD; clear hD; refine O.bF (j:=0) (m:=j) (xs':=ints (l2.set j (l2.getD (j-1) 0))) (M':=[sl 3 1 vX N (ints (l2.set j (l2.getD (j-1) 0)))]) hf hS rfl rfl rfl aD rfl rfl rfl (by simp only [ai,List.length_set]; omega) ints_set rfl rfl ?_; intro w hS; exact nU hf rfl (fun _=>rfl) hS
        · intro s_ g w _ hD a hf
          have hS:=hD; clear hD; refine O.bF (j:=0) (m:=(j-1)) (xs':=ints ((l2.set j (l2.getD (j-1) 0)).set (j-1) (l2.getD j 0))) (M':=[sl 3 1 vX N (ints ((l2.set j (l2.getD (j-1) 0)).set (j-1) (l2.getD j 0)))]) hf hS rfl rfl rfl aD rfl rfl rfl (by simp only [ai,List.length_set]; omega) ints_set rfl rfl ?_; intro w hS; exact nU hf rfl (fun _=>rfl) hS
      clear hf hf1 hS; intro s_ g a w _ hf hD; have hS:=hD; clear hD; replace hf:Fr a 53 [] ((37,vX)::(38,iV j)::(39,vX)::(40,iV j)::(41,iV ((j:Int)-1))::(42,vX)::(43,iV j)::(44,iV ((j:Int)-1))::(45,ix vX (j-1))::(46,iV (l2.getD (j-1) 0))::(47,vX)::(48,iV j)::(49,ix vX j)::(50,iV (l2.getD j 0))::(51,ix vX j)::(52,ix vX (j-1))::LZ695):=hf; obtain ⟨l3,hsw⟩:∃ q,Det.swL l2 j (j-1)=q:=⟨_,rfl⟩; have hl3:l3.length=N:=by rw [← hsw,Det.dW]; exact hl2
      have hr3:Det.InR zs.length l3:=by rw [← hsw]; exact hr2.sw (by omega) (by omega)
      replace hS:=hS.eqM (N:=[sl 3 1 vX N (ints l3)]) (by rw [← hsw]; rfl); refine aG<|aF<|?_
      refine R3 rfl<|mv hf rfl<|fun a hf=>ov hf rfl (aA.cZ rfl rfl (by omega)) fun a hf=>mv hf rfl fun a hf=>?_; refine O.nil ?_; refine aS ⟨(j-1,l3),⟨hf.to ⟨rfl,rfl,rfl,rfl,rfl,(by first | rfl | exact vI (by omega)),trivial⟩,?_,?_,?_,?_,?_⟩,?_⟩
      · exact hS.eqM rfl
      · omega
      · exact hl3
      · exact hr3
      · rw [← hf2,Det.aED (j:=j) (by omega) hc.2,hsw]
      · dsimp only; omega
    · have hcb:=hc
      try simp only [bsm] at hc
      refine W.exit<|aC<|aC<|bD<|aG<|aF<|?_
      refine R3 rfl<|mv hf rfl<|fun a hf=>ov hf rfl (aA.ak rfl rfl (by omega)) fun a hf=>mv hf rfl fun a hf=>?_; refine O.nil ?_; refine aS ⟨(i+1,l2),⟨hf.to ⟨rfl,rfl,rfl,rfl,(by first | rfl | exact vI (by omega)),trivial⟩,?_,?_,?_,?_,?_,?_⟩,?_⟩
      · exact hS.eqM rfl
      · omega
      · omega
      · exact hl2
      · exact hr2
      · rw [← he,Det.aCl (i:=i) (by omega),← hf2,Det.aDl (by omega)]
      · dsimp only; omega
  · refine W.exit ?_
    refine aC<|aC<|bD<|eP<|iY hf rfl <|?_; refine ⟨l1,rfl,(hS.sub (List.Sublist.cons_cons _ (List.nil_sublist _))).noB,?_,hl1,hr1⟩; rw [← he,Det.aCr (by omega)]
set_option maxHeartbeats 1000000 in
set_option maxRecDepth 4000 in
theorem zD (N lo hi fi:Nat) (vX vP:Value) (l zs:List Int) (fW fH:Int) (w0:World) (hN:N≤100000) (hl:l.length=N) (hr:Det.InR zs.length l) (hP:aQ (hp w0) 1 vP zs.length (ints zs)) (hsep:∀ b,0<zs.length→vP.ownBlock=some b→¬ vX.ownBlock=some b) (hX:dZ (hp w0) 3 1 vX N (ints l)) (hb:fi+hi≤N) (hlo:lo≤N) :
    Ret Tryz.prog 128 #[vX,iV lo,iV hi,iV fi,(fB 60 fW fH vP)] w0 (G:=List Int) (fun _=>.tuple #[]) (fun l' w=>St w0 w (oB vX) [] [sl 3 1 vX N (ints l')]∧(Go.Sort.siftDown (Det.ltP zs) hi fi lo l.toArray=l'.toArray)∧l'.length=N∧Det.InR zs.length l'):=by
  refine aR (lv:=[vX,iV lo,iV hi,iV fi,(fB 60 fW fH vP)]) Tryz.func128 rfl rfl rfl (fun a hf=>?_); replace hf:Fr a 82 [] [(0,vX),(1,iV lo),(2,iV hi),(3,iV fi),(4,(fB 60 fW fH vP))]:=hf; have hS:St w0 w0 (oB vX) [rI vP zs] [sl 3 1 vX N (ints l)]:=(St.own hX).lend hP hsep; refine W.seq ?_
  refine R2 rfl<|mv hf rfl<|fun a hf=>mv hf rfl fun a hf=>?_; refine nk ?_; replace hf:Fr a 82 [] [(0,_),(2,_),(3,_),(4,_),(10,_)]:=hf.q rfl; refine W.block ?_
  refine W.loop (G:=(Nat) × (List Int)) (fun g a w=>match g with | (root,l1)=>Fr a 82 [] [(0,vX),(2,iV hi),(3,iV fi),(4,(fB 60 fW fH vP)),(10,iV root)]∧St w0 w (oB vX) [rI vP zs] [sl 3 1 vX N (ints l1)]∧(root≤N)∧(l1.length=N)∧(Det.InR zs.length l1)∧(Go.Sort.siftDown (Det.ltP zs) hi fi root l1.toArray=Go.Sort.siftDown (Det.ltP zs) hi fi lo l.toArray)) (fun g=>match g with | (root,l1)=>hi-root) (lo,l) ?_ ?_
  · refine ⟨hf.to ⟨rfl,rfl,rfl,rfl,(by first | rfl | exact vI (by omega)),trivial⟩,hS,?_,?_,?_,?_⟩
    · omega
    · exact hl
    · exact hr
    · rfl
  clear hf hS a; rintro ⟨root,l1⟩ a w ⟨hf,hS,h0,hl1,hr1,he⟩; refine W.block<|W.seq<|?_
  refine R4 rfl<|mv hf rfl<|fun a hf=>ov hf rfl (aA.qG rfl rfl (by omega)) fun a hf=>ov hf rfl (aA.ak rfl rfl (by omega)) fun a hf=>mv hf rfl fun a hf=>?_; refine nk<|W.seq<|W.seq<|?_
  refine R3 rfl<|mv hf rfl<|fun a hf=>mv hf rfl fun a hf=>ov (v:=.bool (decide (((2*(root:Int))+1)≥((hi:Int):Int)))) hf rfl (aA.geq rfl rfl) fun a hf=>?_; refine nk ?_; refine W.bJ hf rfl (fun hleaf=>?_) (fun hleaf=>?_)
  · refine W.exit ?_
    refine aC<|fT rfl<|aC<|bD<|eP<|iY hf rfl <|?_; refine ⟨l1,rfl,(hS.sub (List.Sublist.cons_cons _ (List.nil_sublist _))).noB,?_,hl1,hr1⟩
    first | rw [← he,Det.sj (by omega)] | rw [← he,Det.sM hpk (by omega)]
  · refine W.skip ?_
    refine aF<|W.seq<|W.seq<|?_
    refine W.dY (fun w=>St w0 w (oB vX) [rI vP zs] [sl 3 1 vX N (ints l1)]) aV rfl (by kernel_rfl) rfl hS.drew ?_; clear hS; refine q0 hf rfl rfl fun a hf=>OQ.val (v:=iV (((2*(root:Int))+1)+1)) hf rfl (fun w hS=>aA.ak rfl rfl (by omega)) fun a hf=>q0 hf rfl rfl fun a hf=>OQ.val (v:=.bool (decide ((((2*(root:Int))+1)+1)<((hi:Int):Int)))) hf rfl (fun w hS=>aA.lss rfl rfl) fun a hf=>q0 hf rfl rfl fun a hf=>?_
    refine OQ.ji (K':=fun a=>Fr a 82 [] [(0,vX),(2,iV hi),(3,iV fi),(4,(fB 60 fW fH vP)),(10,iV root),(11,iV ((2*(root:Int))+1)),(40,.bool ((decide ((((2*(root:Int))+1)+1)<((hi:Int):Int)))&&(decide ((Det.cfP zs (l1.getD (fi+(2*root+1)) 0) (l1.getD (fi+(2*root+1)+1) 0))<(0:Int)))))]) 17 ?_ ?_
    · rcases Bool.eq_false_or_eq_true (decide ((((2*(root:Int))+1)+1)<((hi:Int):Int))) with hb2 | hb2
      · have hb2p:=of_decide_eq_true hb2
        refine gm hf rfl rfl hb2 rfl rfl fun a hf=>gm hf rfl rfl hb2 rfl rfl fun a hf=>gm hf rfl rfl hb2 rfl rfl fun a hf=>gm hf rfl rfl hb2 rfl rfl fun a hf=>OQ.gval (v:=iV ((fi:Int)+((2*(root:Int))+1))) hf rfl rfl hb2 rfl (fun w hS=>aA.ak rfl rfl (by omega)) fun a hf=>OQ.gval (v:=ix vX (fi+(2*root+1))) hf rfl rfl hb2 rfl (fun w hS=>aA.ixV (j:=(fi+(2*root+1))) (m:=(fi+(2*root+1))) aB aD rfl rfl (hS.slr (j:=0) rfl) (by omega) (by omega) (Nat.mul_one _)) fun a hf=>OQ.gval (v:=iV (l1.getD (fi+(2*root+1)) 0)) hf rfl rfl hb2 rfl (fun w hS=>aA.ld1 aH rfl (hS.slr (j:=0) rfl) (aI (by omega))) fun a hf=>gm hf rfl rfl hb2 rfl rfl fun a hf=>gm hf rfl rfl hb2 rfl rfl fun a hf=>gm hf rfl rfl hb2 rfl rfl fun a hf=>OQ.gval (v:=iV ((fi:Int)+((2*(root:Int))+1))) hf rfl rfl hb2 rfl (fun w hS=>aA.ak rfl rfl (by omega)) fun a hf=>OQ.gval (v:=iV (((fi:Int)+((2*(root:Int))+1))+1)) hf rfl rfl hb2 rfl (fun w hS=>aA.ak rfl rfl (by omega)) fun a hf=>OQ.gval (v:=ix vX (fi+(2*root+1)+1)) hf rfl rfl hb2 rfl (fun w hS=>aA.ixV (j:=(fi+(2*root+1)+1)) (m:=(fi+(2*root+1)+1)) aB aD rfl rfl (hS.slr (j:=0) rfl) (by omega) (by omega) (Nat.mul_one _)) fun a hf=>OQ.gval (v:=iV (l1.getD (fi+(2*root+1)+1) 0)) hf rfl rfl hb2 rfl (fun w hS=>aA.ld1 aH rfl (hS.slr (j:=0) rfl) (aI (by omega))) fun a hf=>OQ.gV (v:=iV (Det.cfP zs (l1.getD (fi+(2*root+1)) 0) (l1.getD (fi+(2*root+1)+1) 0))) hf rfl rfl hb2 rfl (fun w hS=>dS.call (av:=#[(fG fW fH vP),iV (l1.getD (fi+(2*root+1)) 0),iV (l1.getD (fi+(2*root+1)+1) 0)]) dX rfl rfl rfl) (fun w hS=>au fW fH (l1.getD (fi+(2*root+1)) 0) (l1.getD (fi+(2*root+1)+1) 0) vP zs _ (hr1.at (by omega)) (hr1.at (by omega)) (hS.aL (j:=0) rfl)) fun a hf=>OQ.gval (v:=.bool (decide ((Det.cfP zs (l1.getD (fi+(2*root+1)) 0) (l1.getD (fi+(2*root+1)+1) 0))<(0:Int)))) hf rfl rfl hb2 rfl (fun w hS=>aA.lss rfl rfl) fun a hf=>?_; refine OQ.val (v:=.bool ((decide ((((2*(root:Int))+1)+1)<((hi:Int):Int)))&&(decide ((Det.cfP zs (l1.getD (fi+(2*root+1)) 0) (l1.getD (fi+(2*root+1)+1) 0))<(0:Int))))) hf rfl (fun w hS=>aA.pick rfl rfl rfl (by rw [hb2]; rfl)) fun a hf=>?_; exact OQ.nil (hf.q rfl)
      · have hb2p:=of_decide_eq_false hb2
        refine OQ.aJ hf rfl rfl hb2 rfl fun a hf=>OQ.aJ hf rfl rfl hb2 rfl fun a hf=>OQ.aJ hf rfl rfl hb2 rfl fun a hf=>OQ.aJ hf rfl rfl hb2 rfl fun a hf=>OQ.aJ hf rfl rfl hb2 rfl fun a hf=>OQ.aJ hf rfl rfl hb2 rfl fun a hf=>OQ.aJ hf rfl rfl hb2 rfl fun a hf=>OQ.aJ hf rfl rfl hb2 rfl fun a hf=>OQ.aJ hf rfl rfl hb2 rfl fun a hf=>OQ.aJ hf rfl rfl hb2 rfl fun a hf=>OQ.aJ hf rfl rfl hb2 rfl fun a hf=>OQ.aJ hf rfl rfl hb2 rfl fun a hf=>OQ.aJ hf rfl rfl hb2 rfl fun a hf=>OQ.aJ hf rfl rfl hb2 rfl fun a hf=>OQ.aJ hf rfl rfl hb2 rfl fun a hf=>OQ.aJ hf rfl rfl hb2 rfl fun a hf=>?_; refine OQ.val (v:=.bool ((decide ((((2*(root:Int))+1)+1)<((hi:Int):Int)))&&(decide ((Det.cfP zs (l1.getD (fi+(2*root+1)) 0) (l1.getD (fi+(2*root+1)+1) 0))<(0:Int))))) hf rfl (fun w hS=>aA.pick rfl rfl rfl (by rw [hb2]; rfl)) fun a hf=>?_; exact OQ.nil (hf.q rfl)
    clear hf a; intro a hf; refine OQ.nil ?_; intro w hS; refine aF ?_; refine W.if_ hf rfl (fun hpc=>?_) (fun hpc=>?_)
    · have hpcb:=hpc
      try simp only [bsm] at hpc
      refine R3 rfl<|mv hf rfl<|fun a hf=>ov hf rfl (aA.ak rfl rfl (by omega)) fun a hf=>mv hf rfl fun a hf=>?_; refine nk ?_; replace hf:Fr a 82 [] [(0,_),(2,_),(3,_),(4,_),(10,_),(11,_)]:=hf.q rfl; refine W.seq<|W.seq<|?_; have hpk:Det.ny zs l1 hi fi root (2*root+2):=by unfold Det.ny; omega
      rw [show (((2*(root:Int))+1)+1)=(((2*root+2):Nat):Int) from by omega] at hf
      refine W.dY (fun w=>St w0 w (oB vX) [rI vP zs] [sl 3 1 vX N (ints l1)]) aV rfl (by kernel_rfl) rfl hS.drew ?_; clear hS; refine q0 hf rfl rfl fun a hf=>q0 hf rfl rfl fun a hf=>q0 hf rfl rfl fun a hf=>q0 hf rfl rfl fun a hf=>OQ.val (v:=iV ((fi:Int)+(root:Int))) hf rfl (fun w hS=>aA.ak rfl rfl (by omega)) fun a hf=>OQ.val (v:=ix vX (fi+root)) hf rfl (fun w hS=>aA.ixV (j:=(fi+root)) (m:=(fi+root)) aB aD rfl rfl (hS.slr (j:=0) rfl) (by omega) (by omega) (Nat.mul_one _)) fun a hf=>OQ.val (v:=iV (l1.getD (fi+root) 0)) hf rfl (fun w hS=>aA.ld1 aH rfl (hS.slr (j:=0) rfl) (aI (by omega))) fun a hf=>q0 hf rfl rfl fun a hf=>q0 hf rfl rfl fun a hf=>q0 hf rfl rfl fun a hf=>OQ.val (v:=iV ((fi:Int)+(((2*root+2):Nat):Int))) hf rfl (fun w hS=>aA.ak rfl rfl (by omega)) fun a hf=>OQ.val (v:=ix vX (fi+(2*root+2))) hf rfl (fun w hS=>aA.ixV (j:=(fi+(2*root+2))) (m:=(fi+(2*root+2))) aB aD rfl rfl (hS.slr (j:=0) rfl) (by omega) (by omega) (Nat.mul_one _)) fun a hf=>OQ.val (v:=iV (l1.getD (fi+(2*root+2)) 0)) hf rfl (fun w hS=>aA.ld1 aH rfl (hS.slr (j:=0) rfl) (aI (by omega))) fun a hf=>OQ.gT (v:=iV (Det.cfP zs (l1.getD (fi+root) 0) (l1.getD (fi+(2*root+2)) 0))) hf rfl (fun w hS=>dS.call (av:=#[(fG fW fH vP),iV (l1.getD (fi+root) 0),iV (l1.getD (fi+(2*root+2)) 0)]) dX rfl rfl rfl) (fun w hS=>au fW fH (l1.getD (fi+root) 0) (l1.getD (fi+(2*root+2)) 0) vP zs _ (hr1.at (by omega)) (hr1.at (by omega)) (hS.aL (j:=0) rfl)) fun a hf=>OQ.val (v:=.bool (decide ((Det.cfP zs (l1.getD (fi+root) 0) (l1.getD (fi+(2*root+2)) 0))<(0:Int)))) hf rfl (fun w hS=>aA.lss rfl rfl) fun a hf=>OQ.val (v:=.bool (!(decide ((Det.cfP zs (l1.getD (fi+root) 0) (l1.getD (fi+(2*root+2)) 0))<(0:Int))))) hf rfl (fun w hS=>aA.not rfl) fun a hf=>?_; refine OQ.nil ?_; intro w hS; refine aF ?_; refine W.if_ hf rfl (fun hstop=>?_) (fun hstop=>?_)
      · have hstopb:=hstop
        try simp only [bsm] at hstop
        refine W.ret<|aK<|aW<|aK<|aW<|iY hf rfl <|?_; refine ⟨l1,rfl,(hS.sub (List.Sublist.cons_cons _ (List.nil_sublist _))).noB,?_,hl1,hr1⟩
        first | rw [← he,Det.sj (by omega)] | rw [← he,Det.sM hpk (by omega)]
      · have hstopb:=hstop
        try simp only [bsm] at hstop
        refine W.skip<|aF<|W.seq<|?_
        have hf1:Fr a 82 [] []:=hf.to trivial; replace hf:Fr a 82 [] [(0,_),(2,_),(3,_),(4,_),(10,_),(11,_)]:=hf.q rfl; refine W.dn (γ:=Unit) (L0:=[(0,vX),(2,iV hi),(3,iV fi),(4,(fB 60 fW fH vP)),(10,iV root),(11,iV (((2*root+2):Nat):Int))]) (L1:=[]) () [21,23] [] [0,1,2,3,4,5,6,7,8,9,10,11,12,13,14,15,16,17,18,19,20,22] (fun i_=>match i_ with | 3=>[1,2] | 7=>[5,6] | 11=>[9,10] | 12=>[8,11] | 13=>[12] | 17=>[15,16] | 18=>[14,17] | 19=>[18] | 20=>[0,3] | 21=>[13,20] | 22=>[4,7] | 23=>[19,22] | _=>[]) (fun _=>[]) (fun i_=>match i_ with | 21=>[22,23] | _=>[]) (fun _=>[]) (fun i_=>match i_ with | 22=>1 | 23=>1 | _=>0) (fun i_=>match i_ with | 4=>1 | 5=>1 | 6=>1 | 7=>1 | 21=>1 | 22=>1 | 23=>2 | _=>0) (fun (g:Unit) j_=>match g,j_ with | _,0=>vX | _,1=>iV fi | _,2=>iV root | _,3=>iV ((fi:Int)+(root:Int)) | _,4=>vX | _,5=>iV fi | _,6=>iV (((2*root+2):Nat):Int) | _,7=>iV ((fi:Int)+(((2*root+2):Nat):Int)) | _,8=>vX | _,9=>iV fi | _,10=>iV (((2*root+2):Nat):Int) | _,11=>iV ((fi:Int)+(((2*root+2):Nat):Int)) | _,12=>ix vX (fi+(2*root+2)) | _,13=>iV (l1.getD (fi+(2*root+2)) 0) | _,14=>vX | _,15=>iV fi | _,16=>iV root | _,17=>iV ((fi:Int)+(root:Int)) | _,18=>ix vX (fi+root) | _,19=>iV (l1.getD (fi+root) 0) | _,20=>ix vX (fi+root) | _,22=>ix vX (fi+(2*root+2)) | _,_=>undef) (fun k_ (_:Nat→Bool) (g:Unit) w=>match k_,g with | 0,_=>St w0 w (oB vX) [rI vP zs] [sl 3 1 vX N (ints l1)] | 1,_=>St w0 w (oB vX) [rI vP zs] [sl 3 1 vX N (ints (l1.set (fi+root) (l1.getD (fi+(2*root+2)) 0)))] | _,_=>St w0 w (oB vX) [rI vP zs] [sl 3 1 vX N (ints ((l1.set (fi+root) (l1.getD (fi+(2*root+2)) 0)).set (fi+(2*root+2)) (l1.getD (fi+root) 0)))]) aV (by kernel_rfl) (by kernel_rfl) (by kernel_rfl) hf hf1 hS.drew ?_ ?_ trivial ?_
        · clear hf hf1 hS
          refine ⟨?_,?_,?_,?_,?_,?_,?_,?_,?_,?_,?_,?_,?_,?_,?_,?_,?_,?_,?_,?_,?_,?_,trivial⟩
          · exact qq fun _=>rfl
          · exact qq fun _=>rfl
          · exact qq fun _=>rfl
          · exact fun _ _ _ _ _ _ _ hD _ hf=>qv hf rfl (aA.ak rfl rfl (by omega)) hD
          · exact qq fun _=>rfl
          · exact qq fun _=>rfl
          · exact qq fun _=>rfl
          · exact fun _ _ _ _ _ _ _ hD _ hf=>qv hf rfl (aA.ak rfl rfl (by omega)) hD
          · exact qq fun _=>rfl
          · exact qq fun _=>rfl
          · exact qq fun _=>rfl
          · exact fun _ _ _ _ _ _ _ hD _ hf=>qv hf rfl (aA.ak rfl rfl (by omega)) hD
          · exact s1 (fun _ _ _ _ hD _ hf=>qv hf rfl (aA.ixV (j:=(fi+(2*root+2))) (m:=(fi+(2*root+2))) aB aD rfl rfl (hD.slr (j:=0) rfl) (by omega) (by omega) (Nat.mul_one _)) hD) rfl
          · exact s1 (fun _ _ _ _ hD _ hf=>qv hf rfl (aA.ld1 aH rfl (hD.slr (j:=0) rfl) (aI (by omega))) hD) rfl
          · exact qq fun _=>rfl
          · exact qq fun _=>rfl
          · exact qq fun _=>rfl
          · exact fun _ _ _ _ _ _ _ hD _ hf=>qv hf rfl (aA.ak rfl rfl (by omega)) hD
          · exact s1 (fun _ _ _ _ hD _ hf=>qv hf rfl (aA.ixV (j:=(fi+root)) (m:=(fi+root)) aB aD rfl rfl (hD.slr (j:=0) rfl) (by omega) (by omega) (Nat.mul_one _)) hD) rfl
          · exact s1 (fun _ _ _ _ hD _ hf=>qv hf rfl (aA.ld1 aH rfl (hD.slr (j:=0) rfl) (aI (by omega))) hD) rfl
          · exact s1 (fun _ _ _ _ hD _ hf=>qv hf rfl (aA.ixV (j:=(fi+root)) (m:=(fi+root)) aB aD rfl rfl (hD.slr (j:=0) rfl) (by omega) (by omega) (Nat.mul_one _)) hD) rfl
          · exact s1 (fun _ _ _ _ hD _ hf=>qv hf rfl (aA.ixV (j:=(fi+(2*root+2))) (m:=(fi+(2*root+2))) aB aD rfl rfl (hD.slr (j:=0) rfl) (by omega) (by omega) (Nat.mul_one _)) hD) rfl
        · clear hf hf1 hS
          refine ⟨?_,?_,trivial⟩
          · intro s_ g w _ hD a hf
            have hS:=hD; clear hD; replace hf:Fr a 82 [] [(72,_),(79,_),(0,_),(2,_),(3,_),(4,_),(10,_),(11,_)]:=hf.q rfl; refine O.bF (j:=0) (m:=(fi+root)) (xs':=ints (l1.set (fi+root) (l1.getD (fi+(2*root+2)) 0))) (M':=[sl 3 1 vX N (ints (l1.set (fi+root) (l1.getD (fi+(2*root+2)) 0)))]) hf hS rfl rfl rfl aD rfl rfl rfl (by simp only [ai,List.length_set]; omega) ints_set rfl rfl ?_; intro w hS; exact nU hf rfl (fun _=>rfl) hS
          · intro s_ g w _ hD a hf
            have hS:=hD; clear hD; replace hf:Fr a 82 [] [(78,_),(80,_),(0,_),(2,_),(3,_),(4,_),(10,_),(11,_)]:=hf.q rfl; refine O.bF (j:=0) (m:=(fi+(2*root+2))) (xs':=ints ((l1.set (fi+root) (l1.getD (fi+(2*root+2)) 0)).set (fi+(2*root+2)) (l1.getD (fi+root) 0))) (M':=[sl 3 1 vX N (ints ((l1.set (fi+root) (l1.getD (fi+(2*root+2)) 0)).set (fi+(2*root+2)) (l1.getD (fi+root) 0)))]) hf hS rfl rfl rfl aD rfl rfl rfl (by simp only [ai,List.length_set]; omega) ints_set rfl rfl ?_; intro w hS; exact nU hf rfl (fun _=>rfl) hS
        clear hf hf1 hS; intro s_ g a w _ hf hD; have hS:=hD; clear hD; replace hf:Fr a 82 [] [(59,_),(60,_),(61,_),(62,_),(63,_),(64,_),(65,_),(66,_),(67,_),(68,_),(69,_),(70,_),(71,_),(72,_),(73,_),(74,_),(75,_),(76,_),(77,_),(78,_),(79,_),(80,_),(0,_),(2,_),(3,_),(4,_),(10,_),(11,_)]:=hf.q rfl; obtain ⟨l2,hsw⟩:∃ q,Det.swL l1 (fi+root) (fi+(2*root+2))=q:=⟨_,rfl⟩; have hl2:l2.length=N:=by rw [← hsw,Det.dW]; exact hl1
        have hr2:Det.InR zs.length l2:=by rw [← hsw]; exact hr1.sw (by omega) (by omega)
        replace hS:=hS.eqM (N:=[sl 3 1 vX N (ints l2)]) (by rw [← hsw]; rfl); refine aF ?_
        refine R2 rfl<|mv hf rfl<|fun a hf=>mv hf rfl fun a hf=>?_; refine O.nil<|aG<|?_; refine aS ⟨((2*root+2),l2),⟨hf.to ⟨rfl,rfl,rfl,rfl,(by first | rfl | exact vI (by omega)),trivial⟩,?_,?_,?_,?_,?_⟩,?_⟩
        · exact hS.eqM rfl
        · omega
        · exact hl2
        · exact hr2
        · rw [← he,Det.aDL hpk (by omega),hsw]
        · dsimp only; have:=hpk; unfold Det.ny at this; omega
    · have hpcb:=hpc
      try simp only [bsm] at hpc
      refine W.skip<|aF<|W.seq<|W.seq<|?_; have hpk:Det.ny zs l1 hi fi root (2*root+1):=by unfold Det.ny; omega
      rw [show ((2*(root:Int))+1)=(((2*root+1):Nat):Int) from by omega] at hf
      refine W.dY (fun w=>St w0 w (oB vX) [rI vP zs] [sl 3 1 vX N (ints l1)]) aV rfl (by kernel_rfl) rfl hS.drew ?_; clear hS; refine q0 hf rfl rfl fun a hf=>q0 hf rfl rfl fun a hf=>q0 hf rfl rfl fun a hf=>q0 hf rfl rfl fun a hf=>OQ.val (v:=iV ((fi:Int)+(root:Int))) hf rfl (fun w hS=>aA.ak rfl rfl (by omega)) fun a hf=>OQ.val (v:=ix vX (fi+root)) hf rfl (fun w hS=>aA.ixV (j:=(fi+root)) (m:=(fi+root)) aB aD rfl rfl (hS.slr (j:=0) rfl) (by omega) (by omega) (Nat.mul_one _)) fun a hf=>OQ.val (v:=iV (l1.getD (fi+root) 0)) hf rfl (fun w hS=>aA.ld1 aH rfl (hS.slr (j:=0) rfl) (aI (by omega))) fun a hf=>q0 hf rfl rfl fun a hf=>q0 hf rfl rfl fun a hf=>q0 hf rfl rfl fun a hf=>OQ.val (v:=iV ((fi:Int)+(((2*root+1):Nat):Int))) hf rfl (fun w hS=>aA.ak rfl rfl (by omega)) fun a hf=>OQ.val (v:=ix vX (fi+(2*root+1))) hf rfl (fun w hS=>aA.ixV (j:=(fi+(2*root+1))) (m:=(fi+(2*root+1))) aB aD rfl rfl (hS.slr (j:=0) rfl) (by omega) (by omega) (Nat.mul_one _)) fun a hf=>OQ.val (v:=iV (l1.getD (fi+(2*root+1)) 0)) hf rfl (fun w hS=>aA.ld1 aH rfl (hS.slr (j:=0) rfl) (aI (by omega))) fun a hf=>OQ.gT (v:=iV (Det.cfP zs (l1.getD (fi+root) 0) (l1.getD (fi+(2*root+1)) 0))) hf rfl (fun w hS=>dS.call (av:=#[(fG fW fH vP),iV (l1.getD (fi+root) 0),iV (l1.getD (fi+(2*root+1)) 0)]) dX rfl rfl rfl) (fun w hS=>au fW fH (l1.getD (fi+root) 0) (l1.getD (fi+(2*root+1)) 0) vP zs _ (hr1.at (by omega)) (hr1.at (by omega)) (hS.aL (j:=0) rfl)) fun a hf=>OQ.val (v:=.bool (decide ((Det.cfP zs (l1.getD (fi+root) 0) (l1.getD (fi+(2*root+1)) 0))<(0:Int)))) hf rfl (fun w hS=>aA.lss rfl rfl) fun a hf=>OQ.val (v:=.bool (!(decide ((Det.cfP zs (l1.getD (fi+root) 0) (l1.getD (fi+(2*root+1)) 0))<(0:Int))))) hf rfl (fun w hS=>aA.not rfl) fun a hf=>?_; refine OQ.nil ?_; intro w hS; refine aF ?_; replace hf:Fr a 82 [] [(0,_),(2,_),(3,_),(4,_),(10,_),(11,_),(58,_)]:=hf.q rfl; refine W.if_ hf rfl (fun hstop=>?_) (fun hstop=>?_)
      · have hstopb:=hstop
        try simp only [bsm] at hstop
        refine W.ret<|aK<|aW<|aK<|aW<|iY hf rfl <|?_; refine ⟨l1,rfl,(hS.sub (List.Sublist.cons_cons _ (List.nil_sublist _))).noB,?_,hl1,hr1⟩
        first | rw [← he,Det.sj (by omega)] | rw [← he,Det.sM hpk (by omega)]
      · have hstopb:=hstop
        try simp only [bsm] at hstop
        refine W.skip<|aF<|W.seq<|?_
        have hf1:Fr a 82 [] []:=hf.to trivial; replace hf:Fr a 82 [] [(0,_),(2,_),(3,_),(4,_),(10,_),(11,_)]:=hf.q rfl
        let LZ1350:List (Nat × Value):=[(0,vX),(2,iV hi),(3,iV fi),(4,(fB 60 fW fH vP)),(10,iV root),(11,iV (((2*root+1):Nat):Int))]
        refine W.dn (γ:=Unit) (L0:=LZ1350) (L1:=[]) () [21,23] [] [0,1,2,3,4,5,6,7,8,9,10,11,12,13,14,15,16,17,18,19,20,22] (fun i_=>match i_ with | 3=>[1,2] | 7=>[5,6] | 11=>[9,10] | 12=>[8,11] | 13=>[12] | 17=>[15,16] | 18=>[14,17] | 19=>[18] | 20=>[0,3] | 21=>[13,20] | 22=>[4,7] | 23=>[19,22] | _=>[]) (fun _=>[]) (fun i_=>match i_ with | 21=>[22,23] | _=>[]) (fun _=>[]) (fun i_=>match i_ with | 22=>1 | 23=>1 | _=>0) (fun i_=>match i_ with | 4=>1 | 5=>1 | 6=>1 | 7=>1 | 21=>1 | 22=>1 | 23=>2 | _=>0) (fun (g:Unit) j_=>match g,j_ with | _,0=>vX | _,1=>iV fi | _,2=>iV root | _,3=>iV ((fi:Int)+(root:Int)) | _,4=>vX | _,5=>iV fi | _,6=>iV (((2*root+1):Nat):Int) | _,7=>iV ((fi:Int)+(((2*root+1):Nat):Int)) | _,8=>vX | _,9=>iV fi | _,10=>iV (((2*root+1):Nat):Int) | _,11=>iV ((fi:Int)+(((2*root+1):Nat):Int)) | _,12=>ix vX (fi+(2*root+1)) | _,13=>iV (l1.getD (fi+(2*root+1)) 0) | _,14=>vX | _,15=>iV fi | _,16=>iV root | _,17=>iV ((fi:Int)+(root:Int)) | _,18=>ix vX (fi+root) | _,19=>iV (l1.getD (fi+root) 0) | _,20=>ix vX (fi+root) | _,22=>ix vX (fi+(2*root+1)) | _,_=>undef) (fun k_ (_:Nat→Bool) (g:Unit) w=>match k_,g with | 0,_=>St w0 w (oB vX) [rI vP zs] [sl 3 1 vX N (ints l1)] | 1,_=>St w0 w (oB vX) [rI vP zs] [sl 3 1 vX N (ints (l1.set (fi+root) (l1.getD (fi+(2*root+1)) 0)))] | _,_=>St w0 w (oB vX) [rI vP zs] [sl 3 1 vX N (ints ((l1.set (fi+root) (l1.getD (fi+(2*root+1)) 0)).set (fi+(2*root+1)) (l1.getD (fi+root) 0)))]) aV (by kernel_rfl) (by kernel_rfl) (by kernel_rfl) hf hf1 hS.drew ?_ ?_ trivial ?_
        · clear hf hf1 hS
          refine ⟨?_,?_,?_,?_,?_,?_,?_,?_,?_,?_,?_,?_,?_,?_,?_,?_,?_,?_,?_,?_,?_,?_,trivial⟩
          · exact qq fun _=>rfl
          · exact qq fun _=>rfl
          · exact qq fun _=>rfl
          · exact fun _ _ _ _ _ _ _ hD _ hf=>qv hf rfl (aA.ak rfl rfl (by omega)) hD
          · exact qq fun _=>rfl
          · exact qq fun _=>rfl
          · exact qq fun _=>rfl
          · exact fun _ _ _ _ _ _ _ hD _ hf=>qv hf rfl (aA.ak rfl rfl (by omega)) hD
          · exact qq fun _=>rfl
          · exact qq fun _=>rfl
          · exact qq fun _=>rfl
          · exact fun _ _ _ _ _ _ _ hD _ hf=>qv hf rfl (aA.ak rfl rfl (by omega)) hD
          · exact s1 (fun _ _ _ _ hD _ hf=>qv hf rfl (aA.ixV (j:=(fi+(2*root+1))) (m:=(fi+(2*root+1))) aB aD rfl rfl (hD.slr (j:=0) rfl) (by omega) (by omega) (Nat.mul_one _)) hD) rfl
          · exact s1 (fun _ _ _ _ hD _ hf=>qv hf rfl (aA.ld1 aH rfl (hD.slr (j:=0) rfl) (aI (by omega))) hD) rfl
          · exact qq fun _=>rfl
          · exact qq fun _=>rfl
          · exact qq fun _=>rfl
          · exact fun _ _ _ _ _ _ _ hD _ hf=>qv hf rfl (aA.ak rfl rfl (by omega)) hD
          · exact s1 (fun _ _ _ _ hD _ hf=>qv hf rfl (aA.ixV (j:=(fi+root)) (m:=(fi+root)) aB aD rfl rfl (hD.slr (j:=0) rfl) (by omega) (by omega) (Nat.mul_one _)) hD) rfl
          · exact s1 (fun _ _ _ _ hD _ hf=>qv hf rfl (aA.ld1 aH rfl (hD.slr (j:=0) rfl) (aI (by omega))) hD) rfl
          · exact s1 (fun _ _ _ _ hD _ hf=>qv hf rfl (aA.ixV (j:=(fi+root)) (m:=(fi+root)) aB aD rfl rfl (hD.slr (j:=0) rfl) (by omega) (by omega) (Nat.mul_one _)) hD) rfl
          · exact s1 (fun _ _ _ _ hD _ hf=>qv hf rfl (aA.ixV (j:=(fi+(2*root+1))) (m:=(fi+(2*root+1))) aB aD rfl rfl (hD.slr (j:=0) rfl) (by omega) (by omega) (Nat.mul_one _)) hD) rfl
        · clear hf hf1 hS
          refine ⟨?_,?_,trivial⟩
          · intro s_ g w _ hD a hf
            have hS:=hD; clear hD; refine O.bF (j:=0) (m:=(fi+root)) (xs':=ints (l1.set (fi+root) (l1.getD (fi+(2*root+1)) 0))) (M':=[sl 3 1 vX N (ints (l1.set (fi+root) (l1.getD (fi+(2*root+1)) 0)))]) hf hS rfl rfl rfl aD rfl rfl rfl (by simp only [ai,List.length_set]; omega) ints_set rfl rfl ?_; intro w hS; exact nU hf rfl (fun _=>rfl) hS
          · intro s_ g w _ hD a hf
            have hS:=hD; clear hD; refine O.bF (j:=0) (m:=(fi+(2*root+1))) (xs':=ints ((l1.set (fi+root) (l1.getD (fi+(2*root+1)) 0)).set (fi+(2*root+1)) (l1.getD (fi+root) 0))) (M':=[sl 3 1 vX N (ints ((l1.set (fi+root) (l1.getD (fi+(2*root+1)) 0)).set (fi+(2*root+1)) (l1.getD (fi+root) 0)))]) hf hS rfl rfl rfl aD rfl rfl rfl (by simp only [ai,List.length_set]; omega) ints_set rfl rfl ?_; intro w hS; exact nU hf rfl (fun _=>rfl) hS
        clear hf hf1 hS; intro s_ g a w _ hf hD; have hS:=hD; clear hD; replace hf:Fr a 82 [] ((59,vX)::(60,iV fi)::(61,iV root)::(62,iV ((fi:Int)+(root:Int)))::(63,vX)::(64,iV fi)::(65,iV (((2*root+1):Nat):Int))::(66,iV ((fi:Int)+(((2*root+1):Nat):Int)))::(67,vX)::(68,iV fi)::(69,iV (((2*root+1):Nat):Int))::(70,iV ((fi:Int)+(((2*root+1):Nat):Int)))::(71,ix vX (fi+(2*root+1)))::(72,iV (l1.getD (fi+(2*root+1)) 0))::(73,vX)::(74,iV fi)::(75,iV root)::(76,iV ((fi:Int)+(root:Int)))::(77,ix vX (fi+root))::(78,iV (l1.getD (fi+root) 0))::(79,ix vX (fi+root))::(80,ix vX (fi+(2*root+1)))::LZ1350):=hf; obtain ⟨l2,hsw⟩:∃ q,Det.swL l1 (fi+root) (fi+(2*root+1))=q:=⟨_,rfl⟩; have hl2:l2.length=N:=by rw [← hsw,Det.dW]; exact hl1
        have hr2:Det.InR zs.length l2:=by rw [← hsw]; exact hr1.sw (by omega) (by omega)
        replace hS:=hS.eqM (N:=[sl 3 1 vX N (ints l2)]) (by rw [← hsw]; rfl); refine aF ?_
        refine R2 rfl<|mv hf rfl<|fun a hf=>mv hf rfl fun a hf=>?_; refine O.nil<|aG<|?_; refine aS ⟨((2*root+1),l2),⟨hf.to ⟨rfl,rfl,rfl,rfl,(by first | rfl | exact vI (by omega)),trivial⟩,?_,?_,?_,?_,?_⟩,?_⟩
        · exact hS.eqM rfl
        · omega
        · exact hl2
        · exact hr2
        · rw [← he,Det.aDL hpk (by omega),hsw]
        · dsimp only; have:=hpk; unfold Det.ny at this; omega
set_option maxHeartbeats 1000000 in
set_option maxRecDepth 4000 in
theorem aCH (N lo hi:Nat) (vX vP:Value) (l zs:List Int) (fW fH:Int) (w0:World) (hN:N≤100000) (hl:l.length=N) (hr:Det.InR zs.length l) (hP:aQ (hp w0) 1 vP zs.length (ints zs)) (hsep:∀ b,0<zs.length→vP.ownBlock=some b→¬ vX.ownBlock=some b) (hX:dZ (hp w0) 3 1 vX N (ints l)) (hab:lo+12<hi) (hb:hi≤N) :
    Ret Tryz.prog 120 #[vX,iV lo,iV hi,(fB 60 fW fH vP)] w0 (G:=List Int) (fun _=>.tuple #[]) (fun l' w=>St w0 w (oB vX) [] [sl 3 1 vX N (ints l')]∧(Go.Sort.heapSort (Det.ltP zs) l.toArray lo hi=l'.toArray)∧l'.length=N∧Det.InR zs.length l'):=by
  refine aR (lv:=[vX,iV lo,iV hi,(fB 60 fW fH vP)]) Tryz.func120 rfl rfl rfl (fun a hf=>?_); replace hf:Fr a 60 [] [(0,vX),(1,iV lo),(2,iV hi),(3,(fB 60 fW fH vP))]:=hf; have hS:St w0 w0 (oB vX) [rI vP zs] [sl 3 1 vX N (ints l)]:=(St.own hX).lend hP hsep; refine W.seq ?_
  refine R2 rfl<|mv hf rfl<|fun a hf=>mv hf rfl fun a hf=>?_; refine nk<|W.seq<|?_
  refine R1 rfl<|mv hf rfl<|fun a hf=>?_; refine nk<|W.seq<|?_
  refine R4 rfl<|mv hf rfl<|fun a hf=>mv hf rfl fun a hf=>ov hf rfl (aA.cZ rfl rfl (by omega)) fun a hf=>mv hf rfl fun a hf=>?_; refine O.nil ?_; rw [show ((hi:Int)-(lo:Int))=(((hi-lo:Nat):Int)) from by omega] at hf; refine aF<|W.seq<|W.seq<|?_
  refine R4 rfl<|mv hf rfl<|fun a hf=>ov hf rfl (aA.cZ rfl rfl (by omega)) fun a hf=>ov hf rfl (aA.uH (p':=hi-lo-1) (q':=2) rfl rfl (by omega) rfl (by omega) (by omega)) fun a hf=>mv hf rfl fun a hf=>?_; refine nk ?_; replace hf:Fr a 60 [] [(0,_),(3,_),(8,_),(9,_),(10,_),(11,_)]:=hf.q rfl; refine W.block ?_
  refine W.loop (G:=(Nat) × (List Int)) (fun g a w=>match g with | (k,l1)=>Fr a 60 [] [(0,vX),(3,(fB 60 fW fH vP)),(8,iV lo),(9,iV 0),(10,iV ((hi-lo:Nat):Int)),(11,iV (((k:Nat):Int)-1))]∧St w0 w (oB vX) [rI vP zs] [sl 3 1 vX N (ints l1)]∧(k≤N)∧(l1.length=N)∧(Det.InR zs.length l1)∧(Go.Sort.heapBuild (Det.ltP zs) (hi-lo) lo k l1.toArray=Go.Sort.heapBuild (Det.ltP zs) (hi-lo) lo ((hi-lo-1)/2+1) l.toArray)) (fun g=>match g with | (k,l1)=>k) (((hi-lo-1)/2+1),l) ?_ ?_
  · refine ⟨hf.to ⟨rfl,rfl,rfl,rfl,rfl,(by first | rfl | exact vI (by omega)),trivial⟩,hS,?_,?_,?_,?_⟩
    · omega
    · exact hl
    · exact hr
    · rfl
  clear hf hS a; rintro ⟨k,l1⟩ a w ⟨hf,hS,h0,hl1,hr1,he⟩; refine W.seq<|W.seq<|?_
  refine R2 rfl<|mv hf rfl<|fun a hf=>ov (v:=.bool (decide ((((k:Nat):Int)-1)≥(0:Int)))) hf rfl (aA.geq rfl rfl) fun a hf=>?_; refine nk ?_; refine W.bJ hf rfl (fun hk0=>?_) (fun hk0=>?_)
  · refine W.skip ?_
    refine aF<|W.seq<|W.block<|?_
    refine R6 rfl ?_; rw [show (((k:Nat):Int)-1)=(((k-1:Nat):Int)) from by omega] at hf; refine mv hf rfl fun a hf=>mv hf rfl fun a hf=>mv hf rfl fun a hf=>mv hf rfl fun a hf=>mv hf rfl fun a hf=>?_; refine oc hf rfl uy (zD N (k-1) (hi-lo) lo vX vP l1 zs fW fH _ hN hl1 hr1 (hS.aL (j:=0) rfl) hsep (hS.iJ (j:=0) rfl) (by omega) (by omega)) ?_; clear hf a; rintro l2 w2 ⟨hS1,hsd,hl2,hr2⟩ a hf; replace hS:=(hS.dA hS1 (i:=0) rfl (fun _ h=>h)).eqM (N:=[sl 3 1 vX N (ints l2)]) rfl; refine O.nil<|aG<|aF<|?_
    refine R3 rfl<|mv hf rfl<|fun a hf=>ov hf rfl (aA.cZ rfl rfl (by omega)) fun a hf=>mv hf rfl fun a hf=>?_; refine O.nil ?_; refine aS ⟨(k-1,l2),⟨hf.to ⟨rfl,rfl,rfl,rfl,rfl,(by first | rfl | exact vI (by omega)),trivial⟩,?_,?_,?_,?_,?_⟩,?_⟩
    · exact hS.eqM rfl
    · omega
    · exact hl2
    · exact hr2
    · rw [← he,Det.aEd (k:=k) (by omega),hsd]
    · dsimp only; omega
  · refine W.exit ?_
    refine aC<|aC<|bD<|aF<|W.seq<|?_
    refine R3 rfl<|mv hf rfl<|fun a hf=>ov hf rfl (aA.cZ rfl rfl (by omega)) fun a hf=>mv hf rfl fun a hf=>?_; refine nk ?_; replace hf:Fr a 60 [] [(0,_),(3,_),(8,_),(9,_),(12,_)]:=hf.q rfl; refine W.block ?_
    refine W.loop (G:=(Nat) × (List Int)) (fun g a w=>match g with | (k,l2)=>Fr a 60 [] [(0,vX),(3,(fB 60 fW fH vP)),(8,iV lo),(9,iV 0),(12,iV (((k:Nat):Int)-1))]∧St w0 w (oB vX) [rI vP zs] [sl 3 1 vX N (ints l2)]∧(k≤hi-lo)∧(l2.length=N)∧(Det.InR zs.length l2)∧(Go.Sort.heapPop (Det.ltP zs) lo k l2.toArray=Go.Sort.heapSort (Det.ltP zs) l.toArray lo hi)) (fun g=>match g with | (k,l2)=>k) ((hi-lo),l1) ?_ ?_
    · refine ⟨hf.to ⟨rfl,rfl,rfl,rfl,(by first | rfl | exact vI (by omega)),trivial⟩,hS,?_,?_,?_,?_⟩
      · omega
      · exact hl1
      · exact hr1
      · obtain rfl:k=0:=by omega
        unfold Go.Sort.heapSort; rw [← he]; rfl
    clear hf hS a; rintro ⟨k,l2⟩ a w ⟨hf,hS,h1,hl2,hr2,hf2⟩; refine W.seq<|W.seq<|?_
    refine R2 rfl<|mv hf rfl<|fun a hf=>ov (v:=.bool (decide ((((k:Nat):Int)-1)≥(0:Int)))) hf rfl (aA.geq rfl rfl) fun a hf=>?_; refine nk ?_; refine W.bJ hf rfl (fun hk1=>?_) (fun hk1=>?_)
    · refine W.skip ?_
      refine aF<|W.seq<|W.block<|W.seq<|?_
      have hf1:Fr a 60 [] []:=hf.to trivial; replace hf:Fr a 60 [] [(0,_),(3,_),(8,_),(9,_),(12,_)]:=hf.q rfl; refine W.dn (γ:=Unit) (L0:=[(0,vX),(3,(fB 60 fW fH vP)),(8,iV lo),(9,iV 0),(12,iV (((k:Nat):Int)-1))]) (L1:=[]) () [17,19] [] [0,1,2,3,4,5,6,7,8,9,10,11,12,13,14,15,16,18] (fun i_=>match i_ with | 5=>[3,4] | 9=>[7,8] | 10=>[6,9] | 11=>[10] | 14=>[12,13] | 15=>[14] | 16=>[0,1] | 17=>[11,16] | 18=>[2,5] | 19=>[15,18] | _=>[]) (fun _=>[]) (fun i_=>match i_ with | 17=>[18,19] | _=>[]) (fun _=>[]) (fun i_=>match i_ with | 18=>1 | 19=>1 | _=>0) (fun i_=>match i_ with | 2=>1 | 3=>1 | 4=>1 | 5=>1 | 17=>1 | 18=>1 | 19=>2 | _=>0) (fun (g:Unit) j_=>match g,j_ with | _,0=>vX | _,1=>iV lo | _,2=>vX | _,3=>iV lo | _,4=>iV (((k:Nat):Int)-1) | _,5=>iV ((lo:Int)+(((k:Nat):Int)-1)) | _,6=>vX | _,7=>iV lo | _,8=>iV (((k:Nat):Int)-1) | _,9=>iV ((lo:Int)+(((k:Nat):Int)-1)) | _,10=>ix vX (lo+(k-1)) | _,11=>iV (l2.getD (lo+(k-1)) 0) | _,12=>vX | _,13=>iV lo | _,14=>ix vX lo | _,15=>iV (l2.getD lo 0) | _,16=>ix vX lo | _,18=>ix vX (lo+(k-1)) | _,_=>undef) (fun k_ (_:Nat→Bool) (g:Unit) w=>match k_,g with | 0,_=>St w0 w (oB vX) [rI vP zs] [sl 3 1 vX N (ints l2)] | 1,_=>St w0 w (oB vX) [rI vP zs] [sl 3 1 vX N (ints (l2.set lo (l2.getD (lo+(k-1)) 0)))] | _,_=>St w0 w (oB vX) [rI vP zs] [sl 3 1 vX N (ints ((l2.set lo (l2.getD (lo+(k-1)) 0)).set (lo+(k-1)) (l2.getD lo 0)))]) aV (by kernel_rfl) (by kernel_rfl) (by kernel_rfl) hf hf1 hS.drew ?_ ?_ trivial ?_
      · clear hf hf1 hS
        refine ⟨?_,?_,?_,?_,?_,?_,?_,?_,?_,?_,?_,?_,?_,?_,?_,?_,?_,?_,trivial⟩
        · exact qq fun _=>rfl
        · exact qq fun _=>rfl
        · exact qq fun _=>rfl
        · exact qq fun _=>rfl
        · exact qq fun _=>rfl
        · exact fun _ _ _ _ _ _ _ hD _ hf=>qv hf rfl (aA.ak rfl rfl (by omega)) hD
        · exact qq fun _=>rfl
        · exact qq fun _=>rfl
        · exact qq fun _=>rfl
        · exact fun _ _ _ _ _ _ _ hD _ hf=>qv hf rfl (aA.ak rfl rfl (by omega)) hD
        · exact s1 (fun _ _ _ _ hD _ hf=>qv hf rfl (aA.ixV (j:=(lo+(k-1))) (m:=(lo+(k-1))) aB aD rfl rfl (hD.slr (j:=0) rfl) (by omega) (by omega) (Nat.mul_one _)) hD) rfl
        · exact s1 (fun _ _ _ _ hD _ hf=>qv hf rfl (aA.ld1 aH rfl (hD.slr (j:=0) rfl) (aI (by omega))) hD) rfl
        · exact qq fun _=>rfl
        · exact qq fun _=>rfl
        · exact s1 (fun _ _ _ _ hD _ hf=>qv hf rfl (aA.ixV (j:=lo) (m:=lo) aB aD rfl rfl (hD.slr (j:=0) rfl) rfl (by omega) (Nat.mul_one _)) hD) rfl
        · exact s1 (fun _ _ _ _ hD _ hf=>qv hf rfl (aA.ld1 aH rfl (hD.slr (j:=0) rfl) (aI (by omega))) hD) rfl
        · exact s1 (fun _ _ _ _ hD _ hf=>qv hf rfl (aA.ixV (j:=lo) (m:=lo) aB aD rfl rfl (hD.slr (j:=0) rfl) rfl (by omega) (Nat.mul_one _)) hD) rfl
        · exact s1 (fun _ _ _ _ hD _ hf=>qv hf rfl (aA.ixV (j:=(lo+(k-1))) (m:=(lo+(k-1))) aB aD rfl rfl (hD.slr (j:=0) rfl) (by omega) (by omega) (Nat.mul_one _)) hD) rfl
      · clear hf hf1 hS
        refine ⟨?_,?_,trivial⟩
        · intro s_ g w _ hD a hf
          have hS:=hD; clear hD; replace hf:Fr a 60 [] [(47,_),(52,_),(0,_),(3,_),(8,_),(9,_),(12,_)]:=hf.q rfl; refine O.bF (j:=0) (m:=lo) (xs':=ints (l2.set lo (l2.getD (lo+(k-1)) 0))) (M':=[sl 3 1 vX N (ints (l2.set lo (l2.getD (lo+(k-1)) 0)))]) hf hS rfl rfl rfl aD rfl rfl rfl (by simp only [ai,List.length_set]; omega) ints_set rfl rfl ?_; intro w hS; exact nU hf rfl (fun _=>rfl) hS
        · intro s_ g w _ hD a hf
          have hS:=hD; clear hD; replace hf:Fr a 60 [] [(51,_),(53,_),(0,_),(3,_),(8,_),(9,_),(12,_)]:=hf.q rfl; refine O.bF (j:=0) (m:=(lo+(k-1))) (xs':=ints ((l2.set lo (l2.getD (lo+(k-1)) 0)).set (lo+(k-1)) (l2.getD lo 0))) (M':=[sl 3 1 vX N (ints ((l2.set lo (l2.getD (lo+(k-1)) 0)).set (lo+(k-1)) (l2.getD lo 0)))]) hf hS rfl rfl rfl aD rfl rfl rfl (by simp only [ai,List.length_set]; omega) ints_set rfl rfl ?_; intro w hS; exact nU hf rfl (fun _=>rfl) hS
      clear hf hf1 hS; intro s_ g a w _ hf hD; have hS:=hD; clear hD; replace hf:Fr a 60 [] [(36,_),(37,_),(38,_),(39,_),(40,_),(41,_),(42,_),(43,_),(44,_),(45,_),(46,_),(47,_),(48,_),(49,_),(50,_),(51,_),(52,_),(53,_),(0,_),(3,_),(8,_),(9,_),(12,_)]:=hf.q rfl; obtain ⟨l3,hsw⟩:∃ q,Det.swL l2 lo (lo+(k-1))=q:=⟨_,rfl⟩; have hl3:l3.length=N:=by rw [← hsw,Det.dW]; exact hl2
      have hr3:Det.InR zs.length l3:=by rw [← hsw]; exact hr2.sw (by omega) (by omega)
      replace hS:=hS.eqM (N:=[sl 3 1 vX N (ints l3)]) (by rw [← hsw]; rfl); refine aF ?_
      refine R6 rfl ?_; rw [show (((k:Nat):Int)-1)=(((k-1:Nat):Int)) from by omega] at hf; refine mv hf rfl fun a hf=>mv hf rfl fun a hf=>mv hf rfl fun a hf=>mv hf rfl fun a hf=>mv hf rfl fun a hf=>?_; refine oc hf rfl uy (zD N 0 (k-1) lo vX vP l3 zs fW fH _ hN hl3 hr3 (hS.aL (j:=0) rfl) hsep (hS.iJ (j:=0) rfl) (by omega) (by omega)) ?_; clear hf a; rintro l4 w4 ⟨hS1,hsd,hl4,hr4⟩ a hf; replace hS:=(hS.dA hS1 (i:=0) rfl (fun _ h=>h)).eqM (N:=[sl 3 1 vX N (ints l4)]) rfl; refine O.nil<|aG<|aF<|?_
      refine R3 rfl<|mv hf rfl<|fun a hf=>ov hf rfl (aA.cZ rfl rfl (by omega)) fun a hf=>mv hf rfl fun a hf=>?_; refine O.nil ?_; refine aS ⟨(k-1,l4),⟨hf.to ⟨rfl,rfl,rfl,rfl,(by first | rfl | exact vI (by omega)),trivial⟩,?_,?_,?_,?_,?_⟩,?_⟩
      · exact hS.eqM rfl
      · omega
      · exact hl4
      · exact hr4
      · rw [← hf2,Det.aEg (k:=k) (by omega),hsw,hsd]
      · dsimp only; omega
    · refine W.exit ?_
      refine aC<|aC<|bD<|eP<|iY hf rfl <|?_; refine ⟨l2,rfl,(hS.sub (List.Sublist.cons_cons _ (List.nil_sublist _))).noB,?_,hl2,hr2⟩; obtain rfl:k=0:=by omega
      rw [← hf2]; rfl
set_option maxHeartbeats 1000000 in
set_option maxRecDepth 4000 in
theorem aDy (N lo hi:Nat) (vX vP:Value) (l zs:List Int) (fW fH:Int) (w0:World) (hN:N≤100000) (hl:l.length=N) (hr:Det.InR zs.length l) (hP:aQ (hp w0) 1 vP zs.length (ints zs)) (hsep:∀ b,0<zs.length→vP.ownBlock=some b→¬ vX.ownBlock=some b) (hX:dZ (hp w0) 3 1 vX N (ints l)) (hab:lo<hi) (hb:hi≤N) :
    Ret Tryz.prog 123 #[vX,iV lo,iV hi,(fB 60 fW fH vP)] w0 (G:=List Int) (fun _=>.tuple #[]) (fun l' w=>St w0 w (oB vX) [] [sl 3 1 vX N (ints l')]∧(Go.Sort.reverseRange l.toArray lo hi=l'.toArray)∧l'.length=N∧Det.InR zs.length l'):=by
  refine aR (lv:=[vX,iV lo,iV hi,(fB 60 fW fH vP)]) Tryz.func123 rfl rfl rfl (fun a hf=>?_); replace hf:Fr a 34 [] [(0,vX),(1,iV lo),(2,iV hi),(3,(fB 60 fW fH vP))]:=hf; have hS:St w0 w0 (oB vX) [rI vP zs] [sl 3 1 vX N (ints l)]:=(St.own hX).lend hP hsep; refine W.seq ?_
  refine R2 rfl<|mv hf rfl<|fun a hf=>mv hf rfl fun a hf=>?_; refine nk<|W.seq<|?_
  refine R3 rfl<|mv hf rfl<|fun a hf=>ov hf rfl (aA.cZ rfl rfl (by omega)) fun a hf=>mv hf rfl fun a hf=>?_; refine nk ?_; replace hf:Fr a 34 [] [(0,_),(8,_),(9,_)]:=hf.q rfl; refine W.block ?_
  refine W.loop (G:=(Nat) × (Nat) × (List Int)) (fun g a w=>match g with | (i,j,l1)=>Fr a 34 [] [(0,vX),(8,iV i),(9,iV j)]∧St w0 w (oB vX) [rI vP zs] [sl 3 1 vX N (ints l1)]∧(j<hi)∧(l1.length=N)∧(Det.InR zs.length l1)∧(Go.Sort.reverseLoop i j l1.toArray=Go.Sort.reverseRange l.toArray lo hi)) (fun g=>match g with | (i,j,l1)=>j) (lo,(hi-1),l) ?_ ?_
  · refine ⟨hf.to ⟨rfl,(by first | rfl | exact vI (by omega)),(by first | rfl | exact vI (by omega)),trivial⟩,hS,?_,?_,?_,?_⟩
    · omega
    · exact hl
    · exact hr
    · rfl
  clear hf hS a; rintro ⟨i,j,l1⟩ a w ⟨hf,hS,h0,hl1,hr1,he⟩; refine W.seq<|W.seq<|?_
  refine R3 rfl<|mv hf rfl<|fun a hf=>mv hf rfl fun a hf=>ov (v:=.bool (decide ((i:Int)<((j:Int):Int)))) hf rfl (aA.lss rfl rfl) fun a hf=>?_; refine nk ?_; refine W.bJ hf rfl (fun hij=>?_) (fun hij=>?_)
  · refine W.skip ?_
    refine aF<|W.block<|W.seq<|?_
    have hf1:Fr a 34 [] []:=hf.to trivial; replace hf:Fr a 34 [] [(0,_),(8,_),(9,_)]:=hf.q rfl
    let LZ2023:List (Nat × Value):=[(0,vX),(8,iV i),(9,iV j)]
    refine W.dn (γ:=Unit) (L0:=LZ2023) (L1:=[]) () [13,15] [] [0,1,2,3,4,5,6,7,8,9,10,11,12,14] (fun i_=>match i_ with | 6=>[4,5] | 7=>[6] | 10=>[8,9] | 11=>[10] | 12=>[0,1] | 13=>[7,12] | 14=>[2,3] | 15=>[11,14] | _=>[]) (fun _=>[]) (fun i_=>match i_ with | 13=>[14,15] | _=>[]) (fun _=>[]) (fun i_=>match i_ with | 14=>1 | 15=>1 | _=>0) (fun i_=>match i_ with | 2=>1 | 3=>1 | 13=>1 | 14=>1 | 15=>2 | _=>0) (fun (g:Unit) j_=>match g,j_ with | _,0=>vX | _,1=>iV i | _,2=>vX | _,3=>iV j | _,4=>vX | _,5=>iV j | _,6=>ix vX j | _,7=>iV (l1.getD j 0) | _,8=>vX | _,9=>iV i | _,10=>ix vX i | _,11=>iV (l1.getD i 0) | _,12=>ix vX i | _,14=>ix vX j | _,_=>undef) (fun k_ (_:Nat→Bool) (g:Unit) w=>match k_,g with | 0,_=>St w0 w (oB vX) [rI vP zs] [sl 3 1 vX N (ints l1)] | 1,_=>St w0 w (oB vX) [rI vP zs] [sl 3 1 vX N (ints (l1.set i (l1.getD j 0)))] | _,_=>St w0 w (oB vX) [rI vP zs] [sl 3 1 vX N (ints ((l1.set i (l1.getD j 0)).set j (l1.getD i 0)))]) aV (by kernel_rfl) (by kernel_rfl) (by kernel_rfl) hf hf1 hS.drew ?_ ?_ trivial ?_
    · clear hf hf1 hS
      refine ⟨?_,?_,?_,?_,?_,?_,?_,?_,?_,?_,?_,?_,?_,?_,trivial⟩
      · exact qq fun _=>rfl
      · exact qq fun _=>rfl
      · exact qq fun _=>rfl
      · exact qq fun _=>rfl
      · exact qq fun _=>rfl
      · exact qq fun _=>rfl
      · exact s1 (fun _ _ _ _ hD _ hf=>qv hf rfl (aA.ixV (j:=j) (m:=j) aB aD rfl rfl (hD.slr (j:=0) rfl) rfl (by omega) (Nat.mul_one _)) hD) rfl
      · exact s1 (fun _ _ _ _ hD _ hf=>qv hf rfl (aA.ld1 aH rfl (hD.slr (j:=0) rfl) (aI (by omega))) hD) rfl
      · exact qq fun _=>rfl
      · exact qq fun _=>rfl
      · exact s1 (fun _ _ _ _ hD _ hf=>qv hf rfl (aA.ixV (j:=i) (m:=i) aB aD rfl rfl (hD.slr (j:=0) rfl) rfl (by omega) (Nat.mul_one _)) hD) rfl
      · exact s1 (fun _ _ _ _ hD _ hf=>qv hf rfl (aA.ld1 aH rfl (hD.slr (j:=0) rfl) (aI (by omega))) hD) rfl
      · exact s1 (fun _ _ _ _ hD _ hf=>qv hf rfl (aA.ixV (j:=i) (m:=i) aB aD rfl rfl (hD.slr (j:=0) rfl) rfl (by omega) (Nat.mul_one _)) hD) rfl
      · exact s1 (fun _ _ _ _ hD _ hf=>qv hf rfl (aA.ixV (j:=j) (m:=j) aB aD rfl rfl (hD.slr (j:=0) rfl) rfl (by omega) (Nat.mul_one _)) hD) rfl
    · clear hf hf1 hS
      refine ⟨?_,?_,trivial⟩
      · intro s_ g w _ hD a hf
        have hS:=hD; clear hD; refine O.bF (j:=0) (m:=i) (xs':=ints (l1.set i (l1.getD j 0))) (M':=[sl 3 1 vX N (ints (l1.set i (l1.getD j 0)))]) hf hS rfl rfl rfl aD rfl rfl rfl (by simp only [ai,List.length_set]; omega) ints_set rfl rfl ?_; intro w hS; exact nU hf rfl (fun _=>rfl) hS
      · intro s_ g w _ hD a hf
        have hS:=hD; clear hD; refine O.bF (j:=0) (m:=j) (xs':=ints ((l1.set i (l1.getD j 0)).set j (l1.getD i 0))) (M':=[sl 3 1 vX N (ints ((l1.set i (l1.getD j 0)).set j (l1.getD i 0)))]) hf hS rfl rfl rfl aD rfl rfl rfl (by simp only [ai,List.length_set]; omega) ints_set rfl rfl ?_; intro w hS; exact nU hf rfl (fun _=>rfl) hS
    clear hf hf1 hS; intro s_ g a w _ hf hD; have hS:=hD; clear hD; replace hf:Fr a 34 [] ((16,vX)::(17,iV i)::(18,vX)::(19,iV j)::(20,vX)::(21,iV j)::(22,ix vX j)::(23,iV (l1.getD j 0))::(24,vX)::(25,iV i)::(26,ix vX i)::(27,iV (l1.getD i 0))::(28,ix vX i)::(29,ix vX j)::LZ2023):=hf; obtain ⟨l2,hsw⟩:∃ q,Det.swL l1 i j=q:=⟨_,rfl⟩; have hl2:l2.length=N:=by rw [← hsw,Det.dW]; exact hl1
    have hr2:Det.InR zs.length l2:=by rw [← hsw]; exact hr1.sw (by omega) (by omega)
    replace hS:=hS.eqM (N:=[sl 3 1 vX N (ints l2)]) (by rw [← hsw]; rfl); refine aF<|W.seq<|?_
    refine R3 rfl<|mv hf rfl<|fun a hf=>ov hf rfl (aA.ak rfl rfl (by omega)) fun a hf=>mv hf rfl fun a hf=>?_; refine nk ?_
    refine R3 rfl<|mv hf rfl<|fun a hf=>ov hf rfl (aA.cZ rfl rfl (by omega)) fun a hf=>mv hf rfl fun a hf=>?_; refine O.nil<|aG<|?_; refine aS ⟨(i+1,j-1,l2),⟨hf.to ⟨rfl,(by first | rfl | exact vI (by omega)),(by first | rfl | exact vI (by omega)),trivial⟩,?_,?_,?_,?_,?_⟩,?_⟩
    · exact hS.eqM rfl
    · omega
    · exact hl2
    · exact hr2
    · rw [← he,Det.aEa (i:=i) (j:=j) (l:=l1) (by omega),hsw]
    · dsimp only; omega
  · refine W.exit ?_
    refine aC<|aC<|bD<|eP<|iY hf rfl <|?_; refine ⟨l1,rfl,(hS.sub (List.Sublist.cons_cons _ (List.nil_sublist _))).noB,?_,hl1,hr1⟩; rw [← he,Det.aE8 (by omega)]
set_option maxHeartbeats 1000000 in
set_option maxRecDepth 4000 in
theorem wI (N x y s c:Nat) (vX vP:Value) (l zs:List Int) (fW fH:Int) (w0:World) (hN:N≤100000) (hl:l.length=N) (hr:Det.InR zs.length l) (hP:aQ (hp w0) 1 vP zs.length (ints zs)) (hX:aQ (hp w0) 1 vX N (ints l)) (hx:x<N) (hy:y<N) (hs:s≤1000) (hc:w0.heap[c]? = some (.cells #[iV s] 3 (0,0))) (hcX:∀ b,0<N→vX.ownBlock=some b→b≠c) (hcP:∀ b,0<zs.length→vP.ownBlock=some b→b≠c) :
    Ret Tryz.prog 131 #[vX,iV x,iV y,(pp c),(fB 60 fW fH vP)] w0 (G:=Nat × Nat × Nat) (fun g=>.tuple #[iV (g.1:Int),iV (g.2.1:Int)]) (fun g w=>St w0 w (fun k=>k=c) [] [pt c (.cells #[iV ((g.2.2:Nat):Int)] 3 (0,0))]∧((g.1=x∧g.2.1=y)∨(g.1=y∧g.2.1=x))∧g.2.2≤s+1):=by
  refine aR (lv:=[vX,iV x,iV y,(pp c),(fB 60 fW fH vP)]) Tryz.func131 rfl rfl rfl (fun a hf=>?_); replace hf:Fr a 32 [] [(0,vX),(1,iV x),(2,iV y),(3,(pp c)),(4,(fB 60 fW fH vP))]:=hf; have hS:St w0 w0 (fun k=>k=c) [rI vP zs,rdv 1 vX N (ints l)] [pt c (.cells #[iV s] 3 (0,0))]:=((St.xk (B:=[]) hc (by simp) (by simp)).lend hX hcX).lend hP hcP; refine W.seq ?_
  refine R2 rfl<|mv hf rfl<|fun a hf=>mv hf rfl fun a hf=>?_; refine nk<|W.seq<|W.seq<|?_
  refine W.dY (fun w=>St w0 w (fun k=>k=c) [rI vP zs,rdv 1 vX N (ints l)] [pt c (.cells #[iV s] 3 (0,0))]) aV rfl (by kernel_rfl) rfl hS.drew ?_; clear hS; refine q0 hf rfl rfl fun a hf=>q0 hf rfl rfl fun a hf=>q0 hf rfl rfl fun a hf=>OQ.val (v:=ix vX y) hf rfl (fun w hS=>aA.ixV (j:=y) (m:=y) aB aD rfl rfl (hS.aL (j:=1) rfl) rfl (by omega) (Nat.mul_one _)) fun a hf=>OQ.val (v:=iV (l.getD y 0)) hf rfl (fun w hS=>aA.ld1 aH rfl (hS.aL (j:=1) rfl) (aI (by omega))) fun a hf=>q0 hf rfl rfl fun a hf=>q0 hf rfl rfl fun a hf=>OQ.val (v:=ix vX x) hf rfl (fun w hS=>aA.ixV (j:=x) (m:=x) aB aD rfl rfl (hS.aL (j:=1) rfl) rfl (by omega) (Nat.mul_one _)) fun a hf=>OQ.val (v:=iV (l.getD x 0)) hf rfl (fun w hS=>aA.ld1 aH rfl (hS.aL (j:=1) rfl) (aI (by omega))) fun a hf=>OQ.gT (v:=iV (Det.cfP zs (l.getD y 0) (l.getD x 0))) hf rfl (fun w hS=>dS.call (av:=#[(fG fW fH vP),iV (l.getD y 0),iV (l.getD x 0)]) dX rfl rfl rfl) (fun w hS=>au fW fH (l.getD y 0) (l.getD x 0) vP zs _ (hr.at (by omega)) (hr.at (by omega)) (hS.aL (j:=0) rfl)) fun a hf=>OQ.val (v:=.bool (decide ((Det.cfP zs (l.getD y 0) (l.getD x 0))<(0:Int)))) hf rfl (fun w hS=>aA.lss rfl rfl) fun a hf=>?_; refine OQ.nil ?_; intro w hS; refine aF ?_; refine W.bJ hf rfl (fun hc1=>?_) (fun hc1=>?_)
  · refine W.seq ?_
    refine R6 rfl<|mv hf rfl<|fun a hf=>ov hf rfl (aA.nilCheck rfl) fun a hf=>ov hf rfl (aA.aT aH rfl (hS.p 0 rfl) rfl) fun a hf=>ov hf rfl (aA.ak rfl rfl (by omega)) fun a hf=>ov hf rfl (aA.nilCheck rfl) fun a hf=>?_; refine ost 0 #[iV ((s:Int)+1)] hf hS rfl rfl rfl aD rfl rfl rfl (bl rfl) rfl ?_; intro w hS; refine nk<|W.seq<|?_
    refine R4 rfl<|mv hf rfl<|fun a hf=>mv hf rfl fun a hf=>mv hf rfl fun a hf=>mv hf rfl fun a hf=>?_; refine nk<|W.ret<|aK<|eG hf rfl (aO.tmp rfl) (aO.tmp rfl)<|?_; refine ⟨(y,x,s+1),rfl,(hS.sub (List.Sublist.cons_cons _ (List.nil_sublist _))).noB,by first | exact .inl ⟨rfl,rfl⟩ | exact .inr ⟨rfl,rfl⟩,by dsimp only; omega⟩
  · refine W.skip ?_
    refine aF<|W.seq<|?_
    refine R4 rfl<|mv hf rfl<|fun a hf=>mv hf rfl fun a hf=>mv hf rfl fun a hf=>mv hf rfl fun a hf=>?_; refine nk<|W.ret<|eG hf rfl (aO.tmp rfl) (aO.tmp rfl)<|?_; refine ⟨(x,y,s),rfl,(hS.sub (List.Sublist.cons_cons _ (List.nil_sublist _))).noB,by first | exact .inl ⟨rfl,rfl⟩ | exact .inr ⟨rfl,rfl⟩,by dsimp only; omega⟩
set_option maxHeartbeats 1000000 in
set_option maxRecDepth 4000 in
theorem wO (N x y z s c:Nat) (vX vP:Value) (l zs:List Int) (fW fH:Int) (w0:World) (hN:N≤100000) (hl:l.length=N) (hr:Det.InR zs.length l) (hP:aQ (hp w0) 1 vP zs.length (ints zs)) (hX:aQ (hp w0) 1 vX N (ints l)) (hx:x<N) (hy:y<N) (hz:z<N) (hs:s≤900) (hc:w0.heap[c]? = some (.cells #[iV s] 3 (0,0))) (hcX:∀ b,0<N→vX.ownBlock=some b→b≠c) (hcP:∀ b,0<zs.length→vP.ownBlock=some b→b≠c) :
    Ret Tryz.prog 130 #[vX,iV x,iV y,iV z,(pp c),(fB 60 fW fH vP)] w0 (G:=Nat × Nat) (fun g=>iV (g.1:Int)) (fun g w=>St w0 w (fun k=>k=c) [] [pt c (.cells #[iV ((g.2:Nat):Int)] 3 (0,0))]∧(g.1=x∨g.1=y∨g.1=z)∧g.2≤s+3):=by
  refine aR (lv:=[vX,iV x,iV y,iV z,(pp c),(fB 60 fW fH vP)]) Tryz.func130 rfl rfl rfl (fun a hf=>?_); replace hf:Fr a 41 [] [(0,vX),(1,iV x),(2,iV y),(3,iV z),(4,(pp c)),(5,(fB 60 fW fH vP))]:=hf; have hS:St w0 w0 (fun k=>k=c) [rI vP zs,rdv 1 vX N (ints l)] [pt c (.cells #[iV s] 3 (0,0))]:=((St.xk (B:=[]) hc (by simp) (by simp)).lend hX hcX).lend hP hcP; refine W.seq ?_
  refine R1 rfl<|mv hf rfl<|fun a hf=>?_; refine nk<|W.seq<|?_
  refine W.aY (l:=[0,1,2,3,4,5,6,7,8,9,10]) rfl<|mv hf rfl<|fun a hf=>?_; refine mv hf rfl fun a hf=>mv hf rfl fun a hf=>mv hf rfl fun a hf=>mv hf rfl fun a hf=>?_; refine oc hf rfl qD (wI N x y s c vX vP l zs fW fH _ hN hl hr (hS.aL (j:=0) rfl) (hS.aL (j:=1) rfl) (by omega) (by omega) (by omega) (hS.p 0 rfl) hcX hcP) ?_; clear hf a; rintro ⟨p1,q1,s1⟩ w1 ⟨hS1,e1,f1⟩ a hf; try dsimp only at hS1 hf; replace hS:=(hS.dA hS1 (i:=0) rfl (fun _ h=>h)).eqM (N:=[pt c (.cells #[iV s1] 3 (0,0))]) rfl; dsimp only at e1 f1 hf hS; refine mv hf rfl fun a hf=>ov hf rfl (aA.extract rfl rfl) fun a hf=>ov hf rfl (aA.extract rfl rfl) fun a hf=>mv hf rfl fun a hf=>mv hf rfl fun a hf=>?_; refine nk<|W.seq<|?_
  refine W.aY (l:=[0,1,2,3,4,5,6,7,8,9,10]) rfl<|mv hf rfl<|fun a hf=>?_; refine mv hf rfl fun a hf=>mv hf rfl fun a hf=>mv hf rfl fun a hf=>mv hf rfl fun a hf=>?_; refine oc hf rfl qD (wI N q1 z s1 c vX vP l zs fW fH _ hN hl hr (hS.aL (j:=0) rfl) (hS.aL (j:=1) rfl) (by omega) (by omega) (by omega) (hS.p 0 rfl) hcX hcP) ?_; clear hf a; rintro ⟨p2,q2,s2⟩ w2 ⟨hS1,e2,f2⟩ a hf; try dsimp only at hS1 hf; replace hS:=(hS.dA hS1 (i:=0) rfl (fun _ h=>h)).eqM (N:=[pt c (.cells #[iV s2] 3 (0,0))]) rfl; dsimp only at e2 f2 hf hS; refine mv hf rfl fun a hf=>ov hf rfl (aA.extract rfl rfl) fun a hf=>ov hf rfl (aA.extract rfl rfl) fun a hf=>mv hf rfl fun a hf=>mv hf rfl fun a hf=>?_; refine nk<|W.seq<|?_
  refine W.aY (l:=[0,1,2,3,4,5,6,7,8,9,10]) rfl<|mv hf rfl<|fun a hf=>?_; refine mv hf rfl fun a hf=>mv hf rfl fun a hf=>mv hf rfl fun a hf=>mv hf rfl fun a hf=>?_; refine oc hf rfl qD (wI N p1 p2 s2 c vX vP l zs fW fH _ hN hl hr (hS.aL (j:=0) rfl) (hS.aL (j:=1) rfl) (by omega) (by omega) (by omega) (hS.p 0 rfl) hcX hcP) ?_; clear hf a; rintro ⟨p3,q3,s3⟩ w3 ⟨hS1,e3,f3⟩ a hf; try dsimp only at hS1 hf; replace hS:=(hS.dA hS1 (i:=0) rfl (fun _ h=>h)).eqM (N:=[pt c (.cells #[iV s3] 3 (0,0))]) rfl; dsimp only at e3 f3 hf hS; refine mv hf rfl fun a hf=>ov hf rfl (aA.extract rfl rfl) fun a hf=>ov hf rfl (aA.extract rfl rfl) fun a hf=>mv hf rfl fun a hf=>mv hf rfl fun a hf=>?_; refine nk<|W.seq<|?_
  refine R2 rfl<|mv hf rfl<|fun a hf=>mv hf rfl fun a hf=>?_; refine nk<|W.ret<|bH hf rfl (aO.tmp rfl)<|?_; refine ⟨(q3,s3),rfl,(hS.sub (List.Sublist.cons_cons _ (List.nil_sublist _))).noB,by dsimp only; omega,by dsimp only; omega⟩
set_option maxHeartbeats 1000000 in
set_option maxRecDepth 4000 in
theorem wD (N x s c:Nat) (vX vP:Value) (l zs:List Int) (fW fH:Int) (w0:World) (hN:N≤100000) (hl:l.length=N) (hr:Det.InR zs.length l) (hP:aQ (hp w0) 1 vP zs.length (ints zs)) (hX:aQ (hp w0) 1 vX N (ints l)) (hx:x+1<N) (hx0:0<x) (hs:s≤900) (hc:w0.heap[c]? = some (.cells #[iV s] 3 (0,0))) (hcX:∀ b,0<N→vX.ownBlock=some b→b≠c) (hcP:∀ b,0<zs.length→vP.ownBlock=some b→b≠c) :
    Ret Tryz.prog 129 #[vX,iV x,(pp c),(fB 60 fW fH vP)] w0 (G:=Nat × Nat) (fun g=>iV (g.1:Int)) (fun g w=>St w0 w (fun k=>k=c) [] [pt c (.cells #[iV ((g.2:Nat):Int)] 3 (0,0))]∧(g.1+1=x∨g.1=x∨g.1=x+1)∧g.2≤s+3):=by
  refine aR (lv:=[vX,iV x,(pp c),(fB 60 fW fH vP)]) Tryz.func129 rfl rfl rfl (fun a hf=>?_); replace hf:Fr a 18 [] [(0,vX),(1,iV x),(2,(pp c)),(3,(fB 60 fW fH vP))]:=hf; have hS:St w0 w0 (fun k=>k=c) [rI vP zs,rdv 1 vX N (ints l)] [pt c (.cells #[iV s] 3 (0,0))]:=((St.xk (B:=[]) hc (by simp) (by simp)).lend hX hcX).lend hP hcP; refine W.seq ?_
  refine R1 rfl<|mv hf rfl<|fun a hf=>?_; refine nk<|W.seq<|?_
  refine W.aY (l:=[0,1,2,3,4,5,6,7,8,9]) rfl<|mv hf rfl<|fun a hf=>?_; refine mv hf rfl fun a hf=>ov hf rfl (aA.cZ rfl rfl (by omega)) fun a hf=>mv hf rfl fun a hf=>mv hf rfl fun a hf=>ov hf rfl (aA.ak rfl rfl (by omega)) fun a hf=>mv hf rfl fun a hf=>mv hf rfl fun a hf=>?_; rw [show ((x:Int)-1)=(((x-1:Nat):Int)) from by omega] at hf; rw [show ((x:Int)+1)=(((x+1:Nat):Int)) from by omega] at hf; refine oc hf rfl qN (wO N (x-1) x (x+1) s c vX vP l zs fW fH _ hN hl hr (hS.aL (j:=0) rfl) (hS.aL (j:=1) rfl) (by omega) (by omega) (by omega) (by omega)  (hS.p 0 rfl) hcX hcP) ?_; clear hf a; rintro ⟨m1,s1⟩ w1 ⟨hS1,e1,f1⟩ a hf; try dsimp only at hS1 hf; replace hS:=(hS.dA hS1 (i:=0) rfl (fun _ h=>h)).eqM (N:=[pt c (.cells #[iV s1] 3 (0,0))]) rfl; dsimp only at e1 f1 hf hS; refine mv hf rfl fun a hf=>?_; refine nk<|W.ret<|bH hf rfl (aO.tmp rfl)<|?_; refine ⟨(m1,s1),rfl,(hS.sub (List.Sublist.cons_cons _ (List.nil_sublist _))).noB,by dsimp only; omega,by dsimp only; omega⟩
set_option maxHeartbeats 1000000 in
set_option maxRecDepth 4000 in
theorem aDi (N lo hi:Nat) (vX vP:Value) (l zs:List Int) (fW fH:Int) (w0:World) (hN:N≤100000) (hl:l.length=N) (hr:Det.InR zs.length l) (hP:aQ (hp w0) 1 vP zs.length (ints zs)) (hX:aQ (hp w0) 1 vX N (ints l)) (hab:lo+12<hi) (hb:hi≤N) :
    Ret Tryz.prog 122 #[vX,iV lo,iV hi,(fB 60 fW fH vP)] w0 (G:=Nat × Nat) (fun g=>.tuple #[iV (g.1:Int),iV (g.2:Int)]) (fun g w=>St w0 w noX [] []∧lo≤g.1∧g.1<hi∧g.2≤2):=by
  refine aR (lv:=[vX,iV lo,iV hi,(fB 60 fW fH vP)]) Tryz.func122 rfl rfl rfl (fun a hf=>?_); replace hf:Fr a 63 [] [(0,vX),(1,iV lo),(2,iV hi),(3,(fB 60 fW fH vP))]:=hf; have hS:St w0 w0 noX [rI vP zs,rdv 1 vX N (ints l)] []:=((St.refl w0).bO hX).bO hP; refine W.seq ?_
  refine R2 rfl<|mv hf rfl<|fun a hf=>mv hf rfl fun a hf=>?_; refine nk<|W.seq<|?_
  refine R4 rfl<|mv hf rfl<|fun a hf=>mv hf rfl fun a hf=>ov hf rfl (aA.cZ rfl rfl (by omega)) fun a hf=>mv hf rfl fun a hf=>?_; refine nk<|W.seq<|?_
  refine R1 rfl<|O.alloc (cs:=#[iV 0]) hf hS rfl rfl bY rfl<|?_; intro b_swaps1 w a hbb_swaps1 hS hf; refine nk<|W.seq<|?_
  refine R6 rfl<|mv hf rfl<|fun a hf=>mv hf rfl fun a hf=>ov hf rfl (aA.uH (p':=hi-lo) (q':=4) rfl rfl (by omega) rfl (by omega) (by omega)) fun a hf=>ov hf rfl (aA.qG rfl rfl (by omega)) fun a hf=>ov hf rfl (aA.ak rfl rfl (by omega)) fun a hf=>mv hf rfl fun a hf=>?_; refine O.nil ?_; rw [show ((lo:Int)+((((hi-lo)/4:Nat):Int)*1))=(((lo+(hi-lo)/4:Nat):Int)) from by omega] at hf; refine aF<|W.seq<|?_
  refine R6 rfl<|mv hf rfl<|fun a hf=>mv hf rfl fun a hf=>ov hf rfl (aA.uH (p':=hi-lo) (q':=4) rfl rfl (by omega) rfl (by omega) (by omega)) fun a hf=>ov hf rfl (aA.qG rfl rfl (by omega)) fun a hf=>ov hf rfl (aA.ak rfl rfl (by omega)) fun a hf=>mv hf rfl fun a hf=>?_; refine O.nil ?_; rw [show ((lo:Int)+((((hi-lo)/4:Nat):Int)*2))=(((lo+(hi-lo)/4*2:Nat):Int)) from by omega] at hf; refine aF<|W.seq<|?_
  refine R6 rfl<|mv hf rfl<|fun a hf=>mv hf rfl fun a hf=>ov hf rfl (aA.uH (p':=hi-lo) (q':=4) rfl rfl (by omega) rfl (by omega) (by omega)) fun a hf=>ov hf rfl (aA.qG rfl rfl (by omega)) fun a hf=>ov hf rfl (aA.ak rfl rfl (by omega)) fun a hf=>mv hf rfl fun a hf=>?_; refine O.nil ?_; rw [show ((lo:Int)+((((hi-lo)/4:Nat):Int)*3))=(((lo+(hi-lo)/4*3:Nat):Int)) from by omega] at hf; refine aF<|W.seq<|W.seq<|?_
  refine R2 rfl<|mv hf rfl<|fun a hf=>ov (v:=.bool (decide (((hi:Int)-(lo:Int))≥(8:Int)))) hf rfl (aA.geq rfl rfl) fun a hf=>?_; refine nk ?_; refine W.bJ hf rfl (fun h8=>?_) (fun h8=>?_)
  · refine W.seq ?_
    refine W.seq ?_
    refine R2 rfl<|mv hf rfl<|fun a hf=>ov (v:=.bool (decide (((hi:Int)-(lo:Int))≥(50:Int)))) hf rfl (aA.geq rfl rfl) fun a hf=>?_; refine nk ?_; refine W.bJ hf rfl (fun h50=>?_) (fun h50=>?_)
    · refine W.seq ?_
      refine R5 rfl<|mv hf rfl<|fun a hf=>mv hf rfl fun a hf=>mv hf rfl fun a hf=>?_; refine oc hf rfl pE (wD N (lo+(hi-lo)/4) 0 b_swaps1 vX vP l zs fW fH _ hN hl hr (hS.aL (j:=0) rfl) (hS.aL (j:=1) rfl) (by omega) (by omega) (by omega) (hS.p 0 rfl) (fun b h0 hb=>Nat.ne_of_lt (Nat.lt_of_lt_of_le (hX.lt h0 hb) hbb_swaps1)) (fun b h0 hb=>Nat.ne_of_lt (Nat.lt_of_lt_of_le (hP.lt h0 hb) hbb_swaps1))) ?_; clear hf a; rintro ⟨m1,s1⟩ w4 ⟨hS1,e1,f1⟩ a hf; try dsimp only at hS1 hf; replace hS:=(hS.dA hS1 (i:=0) rfl (fun _ h=>h)).eqM (N:=[pt b_swaps1 (.cells #[iV s1] 3 (0,0))]) rfl; dsimp only at e1 f1 hf hS; refine mv hf rfl fun a hf=>?_; refine nk<|W.seq<|?_
      refine R5 rfl<|mv hf rfl<|fun a hf=>mv hf rfl fun a hf=>mv hf rfl fun a hf=>?_; refine oc hf rfl pE (wD N (lo+(hi-lo)/4*2) s1 b_swaps1 vX vP l zs fW fH _ hN hl hr (hS.aL (j:=0) rfl) (hS.aL (j:=1) rfl) (by omega) (by omega) (by omega) (hS.p 0 rfl) (fun b h0 hb=>Nat.ne_of_lt (Nat.lt_of_lt_of_le (hX.lt h0 hb) hbb_swaps1)) (fun b h0 hb=>Nat.ne_of_lt (Nat.lt_of_lt_of_le (hP.lt h0 hb) hbb_swaps1))) ?_; clear hf a; rintro ⟨m2,s2⟩ w5 ⟨hS1,e2,f2⟩ a hf; try dsimp only at hS1 hf; replace hS:=(hS.dA hS1 (i:=0) rfl (fun _ h=>h)).eqM (N:=[pt b_swaps1 (.cells #[iV s2] 3 (0,0))]) rfl; dsimp only at e2 f2 hf hS; refine mv hf rfl fun a hf=>?_; refine nk ?_
      refine R5 rfl<|mv hf rfl<|fun a hf=>mv hf rfl fun a hf=>mv hf rfl fun a hf=>?_; refine oc hf rfl pE (wD N (lo+(hi-lo)/4*3) s2 b_swaps1 vX vP l zs fW fH _ hN hl hr (hS.aL (j:=0) rfl) (hS.aL (j:=1) rfl) (by omega) (by omega) (by omega) (hS.p 0 rfl) (fun b h0 hb=>Nat.ne_of_lt (Nat.lt_of_lt_of_le (hX.lt h0 hb) hbb_swaps1)) (fun b h0 hb=>Nat.ne_of_lt (Nat.lt_of_lt_of_le (hP.lt h0 hb) hbb_swaps1))) ?_; clear hf a; rintro ⟨m3,s3⟩ w6 ⟨hS1,e3,f3⟩ a hf; try dsimp only at hS1 hf; replace hS:=(hS.dA hS1 (i:=0) rfl (fun _ h=>h)).eqM (N:=[pt b_swaps1 (.cells #[iV s3] 3 (0,0))]) rfl; dsimp only at e3 f3 hf hS; refine mv hf rfl fun a hf=>?_; refine nk ?_
      refine R7 rfl<|mv hf rfl<|fun a hf=>mv hf rfl fun a hf=>mv hf rfl fun a hf=>mv hf rfl fun a hf=>mv hf rfl fun a hf=>?_; refine oc hf rfl qN (wO N m1 m2 m3 s3 b_swaps1 vX vP l zs fW fH _ hN hl hr (hS.aL (j:=0) rfl) (hS.aL (j:=1) rfl) (by omega) (by omega) (by omega) (by omega) (hS.p 0 rfl) (fun b h0 hb=>Nat.ne_of_lt (Nat.lt_of_lt_of_le (hX.lt h0 hb) hbb_swaps1)) (fun b h0 hb=>Nat.ne_of_lt (Nat.lt_of_lt_of_le (hP.lt h0 hb) hbb_swaps1))) ?_; clear hf a; rintro ⟨m4,s4⟩ w7 ⟨hS1,e4,f4⟩ a hf; try dsimp only at hS1 hf; replace hS:=(hS.dA hS1 (i:=0) rfl (fun _ h=>h)).eqM (N:=[pt b_swaps1 (.cells #[iV s4] 3 (0,0))]) rfl; dsimp only at e4 f4 hf hS; refine mv hf rfl fun a hf=>?_; refine nk<|W.seq<|?_
      refine R1 rfl<|ov hf rfl (aA.aT aH rfl (hS.p 0 rfl) rfl)<|fun a hf=>?_; refine nk<|W.block<|W.seq<|?_
      refine R2 rfl<|ov (v:=.bool (decide (((s4:Nat):Int)=(0:Int)))) hf rfl (aA.eql rfl rfl)<|fun a hf=>mv hf rfl fun a hf=>?_; refine nk ?_; refine W.bJ hf rfl (fun h0s=>?_) (fun h0s=>?_)
      · refine W.seq ?_
        refine R3 rfl<|mv hf rfl<|fun a hf=>mv hf rfl fun a hf=>mv hf rfl fun a hf=>?_; refine nk<|W.ret<|aW<|eG hf rfl (aO.tmp rfl) (aO.tmp rfl)<|?_; refine ⟨(m4,1),rfl,hS.sub (List.nil_sublist _) |>.noB,by dsimp only; omega,by dsimp only; omega,by dsimp only; omega⟩
      · refine W.seq ?_
        refine R2 rfl<|ov (v:=.bool (decide (((s4:Nat):Int)=(12:Int)))) hf rfl (aA.eql rfl rfl)<|fun a hf=>mv hf rfl fun a hf=>?_; refine nk ?_; refine W.bJ hf rfl (fun h12=>?_) (fun h12=>?_)
        · refine W.seq ?_
          refine R3 rfl<|mv hf rfl<|fun a hf=>mv hf rfl fun a hf=>mv hf rfl fun a hf=>?_; refine nk<|W.ret<|aW<|eG hf rfl (aO.tmp rfl) (aO.tmp rfl)<|?_; refine ⟨(m4,2),rfl,hS.sub (List.nil_sublist _) |>.noB,by dsimp only; omega,by dsimp only; omega,by dsimp only; omega⟩
        · refine W.seq ?_
          refine R3 rfl<|mv hf rfl<|fun a hf=>mv hf rfl fun a hf=>mv hf rfl fun a hf=>?_; refine nk<|W.ret<|aW<|eG hf rfl (aO.tmp rfl) (aO.tmp rfl)<|?_; refine ⟨(m4,0),rfl,hS.sub (List.nil_sublist _) |>.noB,by dsimp only; omega,by dsimp only; omega,by dsimp only; omega⟩
    · refine W.skip ?_
      refine aF ?_
      refine R7 rfl<|mv hf rfl<|fun a hf=>mv hf rfl fun a hf=>mv hf rfl fun a hf=>mv hf rfl fun a hf=>mv hf rfl fun a hf=>?_; refine oc hf rfl qN (wO N (lo+(hi-lo)/4) (lo+(hi-lo)/4*2) (lo+(hi-lo)/4*3) 0 b_swaps1 vX vP l zs fW fH _ hN hl hr (hS.aL (j:=0) rfl) (hS.aL (j:=1) rfl) (by omega) (by omega) (by omega) (by omega) (hS.p 0 rfl) (fun b h0 hb=>Nat.ne_of_lt (Nat.lt_of_lt_of_le (hX.lt h0 hb) hbb_swaps1)) (fun b h0 hb=>Nat.ne_of_lt (Nat.lt_of_lt_of_le (hP.lt h0 hb) hbb_swaps1))) ?_; clear hf a; rintro ⟨m4,s4⟩ w10 ⟨hS1,e4,f4⟩ a hf; try dsimp only at hS1 hf; replace hS:=(hS.dA hS1 (i:=0) rfl (fun _ h=>h)).eqM (N:=[pt b_swaps1 (.cells #[iV s4] 3 (0,0))]) rfl; dsimp only at e4 f4 hf hS; refine mv hf rfl fun a hf=>?_; refine nk<|W.seq<|?_
      refine R1 rfl<|ov hf rfl (aA.aT aH rfl (hS.p 0 rfl) rfl)<|fun a hf=>?_; refine nk<|W.block<|W.seq<|?_
      refine R2 rfl<|ov (v:=.bool (decide (((s4:Nat):Int)=(0:Int)))) hf rfl (aA.eql rfl rfl)<|fun a hf=>mv hf rfl fun a hf=>?_; refine nk ?_; refine W.bJ hf rfl (fun h0s=>?_) (fun h0s=>?_)
      · refine W.seq ?_
        refine R3 rfl<|mv hf rfl<|fun a hf=>mv hf rfl fun a hf=>mv hf rfl fun a hf=>?_; refine nk<|W.ret<|aW<|eG hf rfl (aO.tmp rfl) (aO.tmp rfl)<|?_; refine ⟨(m4,1),rfl,hS.sub (List.nil_sublist _) |>.noB,by dsimp only; omega,by dsimp only; omega,by dsimp only; omega⟩
      · refine W.seq ?_
        refine R2 rfl<|ov (v:=.bool (decide (((s4:Nat):Int)=(12:Int)))) hf rfl (aA.eql rfl rfl)<|fun a hf=>mv hf rfl fun a hf=>?_; refine nk ?_; refine W.bJ hf rfl (fun h12=>?_) (fun h12=>?_)
        · refine W.seq ?_
          refine R3 rfl<|mv hf rfl<|fun a hf=>mv hf rfl fun a hf=>mv hf rfl fun a hf=>?_; refine nk<|W.ret<|aW<|eG hf rfl (aO.tmp rfl) (aO.tmp rfl)<|?_; refine ⟨(m4,2),rfl,hS.sub (List.nil_sublist _) |>.noB,by dsimp only; omega,by dsimp only; omega,by dsimp only; omega⟩
        · refine W.seq ?_
          refine R3 rfl<|mv hf rfl<|fun a hf=>mv hf rfl fun a hf=>mv hf rfl fun a hf=>?_; refine nk<|W.ret<|aW<|eG hf rfl (aO.tmp rfl) (aO.tmp rfl)<|?_; refine ⟨(m4,0),rfl,hS.sub (List.nil_sublist _) |>.noB,by dsimp only; omega,by dsimp only; omega,by dsimp only; omega⟩
  · exfalso; omega
set_option maxHeartbeats 1000000 in
set_option maxRecDepth 4000 in
theorem aDA (N lo hi:Nat) (vX vP:Value) (l zs:List Int) (fW fH:Int) (w0:World) (hN:N≤100000) (hl:l.length=N) (hr:Det.InR zs.length l) (hP:aQ (hp w0) 1 vP zs.length (ints zs)) (hsep:∀ b,0<zs.length→vP.ownBlock=some b→¬ vX.ownBlock=some b) (hX:dZ (hp w0) 3 1 vX N (ints l)) (hab:lo<hi) (hb:hi≤N) :
    Ret Tryz.prog 124 #[vX,iV lo,iV hi,(fB 60 fW fH vP)] w0 (G:=List Int × Bool) (fun g=>.bool g.2) (fun g w=>St w0 w (oB vX) [] [sl 3 1 vX N (ints g.1)]∧(Go.Sort.partialInsertionSort (Det.ltP zs) l.toArray lo hi=(g.1.toArray,g.2))∧g.1.length=N∧Det.InR zs.length g.1):=by
  refine aR (lv:=[vX,iV lo,iV hi,(fB 60 fW fH vP)]) Tryz.func124 rfl rfl rfl (fun a hf=>?_); replace hf:Fr a 141 [] [(0,vX),(1,iV lo),(2,iV hi),(3,(fB 60 fW fH vP))]:=hf; have hS:St w0 w0 (oB vX) [rI vP zs] [sl 3 1 vX N (ints l)]:=(St.own hX).lend hP hsep; refine W.seq ?_
  refine R1 rfl<|mv hf rfl<|fun a hf=>?_; refine nk<|W.seq<|?_
  refine R3 rfl<|mv hf rfl<|fun a hf=>ov hf rfl (aA.ak rfl rfl (by omega)) fun a hf=>mv hf rfl fun a hf=>?_; refine nk<|W.seq<|W.seq<|?_
  refine R1 rfl<|mv hf rfl<|fun a hf=>?_; refine nk<|W.block<|?_
  refine W.loop (G:=(Nat) × (Nat) × (List Int)) (fun g a w=>match g with | (k,i,l1)=>Fr a 141 [] [(0,vX),(1,iV lo),(2,iV hi),(3,(fB 60 fW fH vP)),(9,iV i),(10,iV k)]∧St w0 w (oB vX) [rI vP zs] [sl 3 1 vX N (ints l1)]∧(k≤5)∧(lo+1≤i∧i≤hi)∧(l1.length=N)∧(Det.InR zs.length l1)∧(Go.Sort.partialIns (Det.ltP zs) lo hi (5-k) i l1.toArray=Go.Sort.partialInsertionSort (Det.ltP zs) l.toArray lo hi)) (fun g=>match g with | (k,i,l1)=>5-k) (0,(lo+1),l) ?_ ?_
  · refine ⟨hf.to ⟨rfl,rfl,rfl,rfl,(by first | rfl | exact vI (by omega)),(by first | rfl | exact vI (by omega)),trivial⟩,hS,?_,?_,?_,?_,?_⟩
    · omega
    · omega
    · exact hl
    · exact hr
    · rfl
  clear hf hS a; rintro ⟨k,i,l1⟩ a w ⟨hf,hS,h0,h1,hl1,hr1,he⟩; refine W.seq<|W.seq<|?_
  refine R2 rfl<|mv hf rfl<|fun a hf=>ov (v:=.bool (decide ((k:Int)<(5:Int)))) hf rfl (aA.lss rfl rfl) fun a hf=>?_; refine nk ?_; refine W.bJ hf rfl (fun hk5=>?_) (fun hk5=>?_)
  · refine W.skip ?_
    refine aF<|W.seq<|W.block<|W.seq<|W.block<|?_
    refine W.loop (G:=(Nat)) (fun g a w=>match g with | i2=>Fr a 141 [] [(0,vX),(1,iV lo),(2,iV hi),(3,(fB 60 fW fH vP)),(9,iV i2),(10,iV k)]∧St w0 w (oB vX) [rI vP zs] [sl 3 1 vX N (ints l1)]∧(i≤i2∧i2≤hi)∧(Go.Sort.scanSorted (Det.ltP zs) l1.toArray hi i2=Go.Sort.scanSorted (Det.ltP zs) l1.toArray hi i)) (fun g=>match g with | i2=>hi-i2) i ?_ ?_
    · refine ⟨hf.to ⟨rfl,rfl,rfl,rfl,(by first | rfl | exact vI (by omega)),rfl,trivial⟩,hS,?_,?_⟩
      · omega
      · rfl
    clear hf hS a; rintro i2 a w ⟨hf,hS,h2,hss⟩; refine W.seq<|W.seq<|?_
    refine W.dY (fun w=>St w0 w (oB vX) [rI vP zs] [sl 3 1 vX N (ints l1)]) aV rfl (by kernel_rfl) rfl hS.drew ?_; clear hS; refine q0 hf rfl rfl fun a hf=>q0 hf rfl rfl fun a hf=>OQ.val (v:=.bool (decide ((i2:Int)<((hi:Int):Int)))) hf rfl (fun w hS=>aA.lss rfl rfl) fun a hf=>q0 hf rfl rfl fun a hf=>?_
    refine OQ.ji (K':=fun a=>Fr a 141 [] [(0,vX),(1,iV lo),(2,iV hi),(3,(fB 60 fW fH vP)),(9,iV i2),(10,iV k),(36,.bool ((decide ((i2:Int)<((hi:Int):Int)))&&(!(decide ((Det.cfP zs (l1.getD i2 0) (l1.getD (i2-1) 0))<(0:Int))))))]) 14 ?_ ?_
    · rcases Bool.eq_false_or_eq_true (decide ((i2:Int)<((hi:Int):Int))) with hb2 | hb2
      · have hb2p:=of_decide_eq_true hb2
        refine gm hf rfl rfl hb2 rfl rfl fun a hf=>gm hf rfl rfl hb2 rfl rfl fun a hf=>gm hf rfl rfl hb2 rfl rfl fun a hf=>OQ.gval (v:=ix vX i2) hf rfl rfl hb2 rfl (fun w hS=>aA.ixV (j:=i2) (m:=i2) aB aD rfl rfl (hS.slr (j:=0) rfl) rfl (by omega) (Nat.mul_one _)) fun a hf=>OQ.gval (v:=iV (l1.getD i2 0)) hf rfl rfl hb2 rfl (fun w hS=>aA.ld1 aH rfl (hS.slr (j:=0) rfl) (aI (by omega))) fun a hf=>gm hf rfl rfl hb2 rfl rfl fun a hf=>gm hf rfl rfl hb2 rfl rfl fun a hf=>OQ.gval (v:=iV ((i2:Int)-1)) hf rfl rfl hb2 rfl (fun w hS=>aA.cZ rfl rfl (by omega)) fun a hf=>OQ.gval (v:=ix vX (i2-1)) hf rfl rfl hb2 rfl (fun w hS=>aA.ixV (j:=(i2-1)) (m:=(i2-1)) aB aD rfl rfl (hS.slr (j:=0) rfl) (by omega) (by omega) (Nat.mul_one _)) fun a hf=>OQ.gval (v:=iV (l1.getD (i2-1) 0)) hf rfl rfl hb2 rfl (fun w hS=>aA.ld1 aH rfl (hS.slr (j:=0) rfl) (aI (by omega))) fun a hf=>?_; refine OQ.gV (v:=iV (Det.cfP zs (l1.getD i2 0) (l1.getD (i2-1) 0))) hf rfl rfl hb2 rfl (fun w hS=>dS.call (av:=#[(fG fW fH vP),iV (l1.getD i2 0),iV (l1.getD (i2-1) 0)]) dX rfl rfl rfl) (fun w hS=>au fW fH (l1.getD i2 0) (l1.getD (i2-1) 0) vP zs _ (hr1.at (by omega)) (hr1.at (by omega)) (hS.aL (j:=0) rfl)) fun a hf=>OQ.gval (v:=.bool (decide ((Det.cfP zs (l1.getD i2 0) (l1.getD (i2-1) 0))<(0:Int)))) hf rfl rfl hb2 rfl (fun w hS=>aA.lss rfl rfl) fun a hf=>OQ.gval (v:=.bool (!(decide ((Det.cfP zs (l1.getD i2 0) (l1.getD (i2-1) 0))<(0:Int))))) hf rfl rfl hb2 rfl (fun w hS=>aA.not rfl) fun a hf=>?_; refine OQ.val (v:=.bool ((decide ((i2:Int)<((hi:Int):Int)))&&(!(decide ((Det.cfP zs (l1.getD i2 0) (l1.getD (i2-1) 0))<(0:Int)))))) hf rfl (fun w hS=>aA.pick rfl rfl rfl (by rw [hb2]; rfl)) fun a hf=>?_; exact OQ.nil (hf.q rfl)
      · have hb2p:=of_decide_eq_false hb2
        refine OQ.aJ hf rfl rfl hb2 rfl fun a hf=>OQ.aJ hf rfl rfl hb2 rfl fun a hf=>OQ.aJ hf rfl rfl hb2 rfl fun a hf=>OQ.aJ hf rfl rfl hb2 rfl fun a hf=>OQ.aJ hf rfl rfl hb2 rfl fun a hf=>OQ.aJ hf rfl rfl hb2 rfl fun a hf=>OQ.aJ hf rfl rfl hb2 rfl fun a hf=>OQ.aJ hf rfl rfl hb2 rfl fun a hf=>OQ.aJ hf rfl rfl hb2 rfl fun a hf=>OQ.aJ hf rfl rfl hb2 rfl fun a hf=>OQ.aJ hf rfl rfl hb2 rfl fun a hf=>OQ.aJ hf rfl rfl hb2 rfl fun a hf=>OQ.aJ hf rfl rfl hb2 rfl fun a hf=>?_; refine OQ.val (v:=.bool ((decide ((i2:Int)<((hi:Int):Int)))&&(!(decide ((Det.cfP zs (l1.getD i2 0) (l1.getD (i2-1) 0))<(0:Int)))))) hf rfl (fun w hS=>aA.pick rfl rfl rfl (by rw [hb2]; rfl)) fun a hf=>?_; exact OQ.nil (hf.q rfl)
    clear hf a; intro a hf; refine OQ.nil ?_; intro w hS; refine aF ?_; refine W.if_ hf rfl (fun hsc=>?_) (fun hsc=>?_)
    · have hscb:=hsc
      try simp only [bsm] at hsc
      refine W.skip<|aF<|W.block<|?_
      refine R3 rfl<|mv hf rfl<|fun a hf=>ov hf rfl (aA.ak rfl rfl (by omega)) fun a hf=>mv hf rfl fun a hf=>?_; refine O.nil<|aG<|?_; refine aS ⟨(i2+1),⟨hf.to ⟨rfl,rfl,rfl,rfl,(by first | rfl | exact vI (by omega)),rfl,trivial⟩,?_,?_,?_⟩,?_⟩
      · exact hS.eqM rfl
      · omega
      · rw [← hss,Det.aEY (i:=i2) (by omega) (by omega)]
      · dsimp only; omega
    · have hscb:=hsc
      try simp only [bsm] at hsc
      refine W.exit<|aC<|aC<|bD<|aF<|W.seq<|W.seq<|?_
      refine R3 rfl<|mv hf rfl<|fun a hf=>mv hf rfl fun a hf=>ov (v:=.bool (decide ((i2:Int)=((hi:Int):Int)))) hf rfl (aA.eql rfl rfl) fun a hf=>?_; refine nk ?_; refine W.bJ hf rfl (fun heq=>?_) (fun heq=>?_)
      · refine W.seq ?_
        refine R1 rfl<|mv hf rfl<|fun a hf=>?_; refine nk<|W.ret<|aK<|aW<|aK<|aK<|aW<|aK<|bH hf rfl (aO.tmp rfl)<|?_; refine ⟨(l1,true),rfl,(hS.sub (List.Sublist.cons_cons _ (List.nil_sublist _))).noB,?_,hl1,hr1⟩; rw [← he]
        first | exact Det.mh (by omega) (by rw [← hss,Det.om (by omega)]; omega) | exact Det.pi_short (by omega) (hss.symm.trans (Det.om (by omega))) (by omega) (by omega) | (have h5:k=5:=(by omega); subst h5; rfl)
      · refine W.skip ?_
        refine aF<|W.seq<|W.seq<|?_
        refine R4 rfl<|mv hf rfl<|fun a hf=>mv hf rfl fun a hf=>ov hf rfl (aA.cZ rfl rfl (by omega)) fun a hf=>ov (v:=.bool (decide (((hi:Int)-(lo:Int))<(50:Int)))) hf rfl (aA.lss rfl rfl) fun a hf=>?_; refine nk ?_; replace hf:Fr a 141 [] [(0,_),(1,_),(2,_),(3,_),(9,_),(10,_),(45,_)]:=hf.q rfl; refine W.bJ hf rfl (fun h50=>?_) (fun h50=>?_)
        · refine W.seq ?_
          refine R1 rfl<|mv hf rfl<|fun a hf=>?_; refine nk<|W.ret<|aK<|aW<|aK<|aK<|aW<|aK<|bH hf rfl (aO.tmp rfl)<|?_; refine ⟨(l1,false),rfl,(hS.sub (List.Sublist.cons_cons _ (List.nil_sublist _))).noB,?_,hl1,hr1⟩; rw [← he]
          first | exact Det.mh (by omega) (by rw [← hss,Det.om (by omega)]; omega) | exact Det.pi_short (by omega) (hss.symm.trans (Det.om (by omega))) (by omega) (by omega) | (have h5:k=5:=(by omega); subst h5; rfl)
        · refine W.skip ?_
          refine aF<|W.seq<|?_; have hss2:=hss.symm.trans (Det.om (P:=zs) (l:=l1) (i:=i2) (b:=hi) (by omega))
          have hf1:Fr a 141 [] []:=hf.to trivial; replace hf:Fr a 141 [] [(0,_),(1,_),(2,_),(3,_),(9,_),(10,_)]:=hf.q rfl
          let LZ3078:List (Nat × Value):=[(0,vX),(1,iV lo),(2,iV hi),(3,(fB 60 fW fH vP)),(9,iV i2),(10,iV k)]
          refine W.dn (γ:=Unit) (L0:=LZ3078) (L1:=[]) () [15,17] [] [0,1,2,3,4,5,6,7,8,9,10,11,12,13,14,16] (fun i_=>match i_ with | 4=>[3] | 7=>[6] | 8=>[5,7] | 9=>[8] | 12=>[10,11] | 13=>[12] | 14=>[0,1] | 15=>[9,14] | 16=>[2,4] | 17=>[13,16] | _=>[]) (fun _=>[]) (fun i_=>match i_ with | 15=>[16,17] | _=>[]) (fun _=>[]) (fun i_=>match i_ with | 16=>1 | 17=>1 | _=>0) (fun i_=>match i_ with | 2=>1 | 3=>1 | 4=>1 | 15=>1 | 16=>1 | 17=>2 | _=>0) (fun (g:Unit) j_=>match g,j_ with | _,0=>vX | _,1=>iV i2 | _,2=>vX | _,3=>iV i2 | _,4=>iV ((i2:Int)-1) | _,5=>vX | _,6=>iV i2 | _,7=>iV ((i2:Int)-1) | _,8=>ix vX (i2-1) | _,9=>iV (l1.getD (i2-1) 0) | _,10=>vX | _,11=>iV i2 | _,12=>ix vX i2 | _,13=>iV (l1.getD i2 0) | _,14=>ix vX i2 | _,16=>ix vX (i2-1) | _,_=>undef) (fun k_ (_:Nat→Bool) (g:Unit) w=>match k_,g with | 0,_=>St w0 w (oB vX) [rI vP zs] [sl 3 1 vX N (ints l1)] | 1,_=>St w0 w (oB vX) [rI vP zs] [sl 3 1 vX N (ints (l1.set i2 (l1.getD (i2-1) 0)))] | _,_=>St w0 w (oB vX) [rI vP zs] [sl 3 1 vX N (ints ((l1.set i2 (l1.getD (i2-1) 0)).set (i2-1) (l1.getD i2 0)))]) aV (by kernel_rfl) (by kernel_rfl) (by kernel_rfl) hf hf1 hS.drew ?_ ?_ trivial ?_
          · clear hf hf1 hS
            refine ⟨?_,?_,?_,?_,?_,?_,?_,?_,?_,?_,?_,?_,?_,?_,?_,?_,trivial⟩
            · exact qq fun _=>rfl
            · exact qq fun _=>rfl
            · exact qq fun _=>rfl
            · exact qq fun _=>rfl
            · exact fun _ _ _ _ _ _ _ hD _ hf=>qv hf rfl (aA.cZ rfl rfl (by omega)) hD
            · exact qq fun _=>rfl
            · exact qq fun _=>rfl
            · exact fun _ _ _ _ _ _ _ hD _ hf=>qv hf rfl (aA.cZ rfl rfl (by omega)) hD
            · exact s1 (fun _ _ _ _ hD _ hf=>qv hf rfl (aA.ixV (j:=(i2-1)) (m:=(i2-1)) aB aD rfl rfl (hD.slr (j:=0) rfl) (by omega) (by omega) (Nat.mul_one _)) hD) rfl
            · exact s1 (fun _ _ _ _ hD _ hf=>qv hf rfl (aA.ld1 aH rfl (hD.slr (j:=0) rfl) (aI (by omega))) hD) rfl
            · exact qq fun _=>rfl
            · exact qq fun _=>rfl
            · exact s1 (fun _ _ _ _ hD _ hf=>qv hf rfl (aA.ixV (j:=i2) (m:=i2) aB aD rfl rfl (hD.slr (j:=0) rfl) rfl (by omega) (Nat.mul_one _)) hD) rfl
            · exact s1 (fun _ _ _ _ hD _ hf=>qv hf rfl (aA.ld1 aH rfl (hD.slr (j:=0) rfl) (aI (by omega))) hD) rfl
            · exact s1 (fun _ _ _ _ hD _ hf=>qv hf rfl (aA.ixV (j:=i2) (m:=i2) aB aD rfl rfl (hD.slr (j:=0) rfl) rfl (by omega) (Nat.mul_one _)) hD) rfl
            · exact s1 (fun _ _ _ _ hD _ hf=>qv hf rfl (aA.ixV (j:=(i2-1)) (m:=(i2-1)) aB aD rfl rfl (hD.slr (j:=0) rfl) (by omega) (by omega) (Nat.mul_one _)) hD) rfl
          · clear hf hf1 hS
            refine ⟨?_,?_,trivial⟩
            · intro s_ g w _ hD a hf
              have hS:=hD; clear hD; refine O.bF (j:=0) (m:=i2) (xs':=ints (l1.set i2 (l1.getD (i2-1) 0))) (M':=[sl 3 1 vX N (ints (l1.set i2 (l1.getD (i2-1) 0)))]) hf hS rfl rfl rfl aD rfl rfl rfl (by simp only [ai,List.length_set]; omega) ints_set rfl rfl ?_; intro w hS; exact nU hf rfl (fun _=>rfl) hS
            · intro s_ g w _ hD a hf
              have hS:=hD; clear hD; refine O.bF (j:=0) (m:=(i2-1)) (xs':=ints ((l1.set i2 (l1.getD (i2-1) 0)).set (i2-1) (l1.getD i2 0))) (M':=[sl 3 1 vX N (ints ((l1.set i2 (l1.getD (i2-1) 0)).set (i2-1) (l1.getD i2 0)))]) hf hS rfl rfl rfl aD rfl rfl rfl (by simp only [ai,List.length_set]; omega) ints_set rfl rfl ?_; intro w hS; exact nU hf rfl (fun _=>rfl) hS
          clear hf hf1 hS; intro s_ g a w _ hf hD; have hS:=hD; clear hD; replace hf:Fr a 141 [] ((46,vX)::(47,iV i2)::(48,vX)::(49,iV i2)::(50,iV ((i2:Int)-1))::(51,vX)::(52,iV i2)::(53,iV ((i2:Int)-1))::(54,ix vX (i2-1))::(55,iV (l1.getD (i2-1) 0))::(56,vX)::(57,iV i2)::(58,ix vX i2)::(59,iV (l1.getD i2 0))::(60,ix vX i2)::(61,ix vX (i2-1))::LZ3078):=hf; obtain ⟨l2,hsw⟩:∃ q,Det.swL l1 i2 (i2-1)=q:=⟨_,rfl⟩; have hl2:l2.length=N:=by rw [← hsw,Det.dW]; exact hl1
          have hr2:Det.InR zs.length l2:=by rw [← hsw]; exact hr1.sw (by omega) (by omega)
          replace hS:=hS.eqM (N:=[sl 3 1 vX N (ints l2)]) (by rw [← hsw]; rfl); refine aF<|W.seq<|W.seq<|?_
          refine R4 rfl<|mv hf rfl<|fun a hf=>mv hf rfl fun a hf=>ov hf rfl (aA.cZ rfl rfl (by omega)) fun a hf=>ov (v:=.bool (decide (((i2:Int)-(lo:Int))≥(2:Int)))) hf rfl (aA.geq rfl rfl) fun a hf=>?_; refine nk ?_; refine W.bJ hf rfl (fun hge=>?_) (fun hge=>?_)
          · refine W.seq ?_
            refine R3 rfl<|mv hf rfl<|fun a hf=>ov hf rfl (aA.cZ rfl rfl (by omega)) fun a hf=>mv hf rfl fun a hf=>?_; refine nk ?_; replace hf:Fr a 141 [] [(0,_),(1,_),(2,_),(3,_),(9,_),(10,_),(11,_)]:=hf.q rfl; refine W.block ?_
            refine W.loop (G:=(Nat) × (List Int)) (fun g a w=>match g with | (j3,l3)=>Fr a 141 [] [(0,vX),(1,iV lo),(2,iV hi),(3,(fB 60 fW fH vP)),(9,iV i2),(10,iV k),(11,iV j3)]∧St w0 w (oB vX) [rI vP zs] [sl 3 1 vX N (ints l3)]∧(j3≤i2-1)∧(l3.length=N)∧(Det.InR zs.length l3)∧(Go.Sort.shiftDown (Det.ltP zs) j3 l3.toArray=Go.Sort.shiftDown (Det.ltP zs) (i2-1) l2.toArray)) (fun g=>match g with | (j3,l3)=>j3) ((i2-1),l2) ?_ ?_
            · refine ⟨hf.to ⟨rfl,rfl,rfl,rfl,rfl,rfl,(by first | rfl | exact vI (by omega)),trivial⟩,hS,?_,?_,?_,?_⟩
              · omega
              · exact hl2
              · exact hr2
              · rfl
            clear hf hS a; rintro ⟨j3,l3⟩ a w ⟨hf,hS,h3,hl3,hr3,hsd⟩; refine W.seq<|W.seq<|?_
            refine R2 rfl<|mv hf rfl<|fun a hf=>ov (v:=.bool (decide ((j3:Int)≥(1:Int)))) hf rfl (aA.geq rfl rfl) fun a hf=>?_; refine nk ?_; replace hf:Fr a 141 [] [(0,_),(1,_),(2,_),(3,_),(9,_),(10,_),(11,_),(69,_)]:=hf.q rfl; refine W.bJ hf rfl (fun hj3=>?_) (fun hj3=>?_)
            · refine W.skip ?_
              refine aF<|W.seq<|W.block<|W.seq<|W.seq<|?_
              refine W.dY (fun w=>St w0 w (oB vX) [rI vP zs] [sl 3 1 vX N (ints l3)]) aV rfl (by kernel_rfl) rfl hS.drew ?_; clear hS; refine q0 hf rfl rfl fun a hf=>q0 hf rfl rfl fun a hf=>q0 hf rfl rfl fun a hf=>OQ.val (v:=ix vX j3) hf rfl (fun w hS=>aA.ixV (j:=j3) (m:=j3) aB aD rfl rfl (hS.slr (j:=0) rfl) rfl (by omega) (Nat.mul_one _)) fun a hf=>OQ.val (v:=iV (l3.getD j3 0)) hf rfl (fun w hS=>aA.ld1 aH rfl (hS.slr (j:=0) rfl) (aI (by omega))) fun a hf=>q0 hf rfl rfl fun a hf=>q0 hf rfl rfl fun a hf=>OQ.val (v:=iV ((j3:Int)-1)) hf rfl (fun w hS=>aA.cZ rfl rfl (by omega)) fun a hf=>OQ.val (v:=ix vX (j3-1)) hf rfl (fun w hS=>aA.ixV (j:=(j3-1)) (m:=(j3-1)) aB aD rfl rfl (hS.slr (j:=0) rfl) (by omega) (by omega) (Nat.mul_one _)) fun a hf=>OQ.val (v:=iV (l3.getD (j3-1) 0)) hf rfl (fun w hS=>aA.ld1 aH rfl (hS.slr (j:=0) rfl) (aI (by omega))) fun a hf=>?_; refine OQ.gT (v:=iV (Det.cfP zs (l3.getD j3 0) (l3.getD (j3-1) 0))) hf rfl (fun w hS=>dS.call (av:=#[(fG fW fH vP),iV (l3.getD j3 0),iV (l3.getD (j3-1) 0)]) dX rfl rfl rfl) (fun w hS=>au fW fH (l3.getD j3 0) (l3.getD (j3-1) 0) vP zs _ (hr3.at (by omega)) (hr3.at (by omega)) (hS.aL (j:=0) rfl)) fun a hf=>OQ.val (v:=.bool (decide ((Det.cfP zs (l3.getD j3 0) (l3.getD (j3-1) 0))<(0:Int)))) hf rfl (fun w hS=>aA.lss rfl rfl) fun a hf=>OQ.val (v:=.bool (!(decide ((Det.cfP zs (l3.getD j3 0) (l3.getD (j3-1) 0))<(0:Int))))) hf rfl (fun w hS=>aA.not rfl) fun a hf=>?_; refine OQ.nil ?_; intro w hS; refine aF ?_; refine W.if_ hf rfl (fun hst3=>?_) (fun hst3=>?_)
              · have hst3b:=hst3
                try simp only [bsm] at hst3
                refine W.exit<|aC<|fT rfl<|aC<|aC<|bD<|aF<|W.seq<|?_
                refine R4 rfl<|mv hf rfl<|fun a hf=>mv hf rfl fun a hf=>ov hf rfl (aA.cZ rfl rfl (by omega)) fun a hf=>ov (v:=.bool (decide (((hi:Int)-(i2:Int))≥(2:Int)))) hf rfl (aA.geq rfl rfl) fun a hf=>?_; refine nk ?_; refine W.bJ hf rfl (fun hge2=>?_) (fun hge2=>?_)
                · refine W.seq ?_
                  refine R3 rfl<|mv hf rfl<|fun a hf=>ov hf rfl (aA.ak rfl rfl (by omega)) fun a hf=>mv hf rfl fun a hf=>?_; refine nk ?_; replace hf:Fr a 141 [] [(0,_),(1,_),(2,_),(3,_),(9,_),(10,_),(11,_),(12,_)]:=hf.q rfl; refine W.block ?_
                  refine W.loop (G:=(Nat) × (List Int)) (fun g a w=>match g with | (j5,l5)=>Fr a 141 [] [(0,vX),(1,iV lo),(2,iV hi),(3,(fB 60 fW fH vP)),(9,iV i2),(10,iV k),(11,iV j3),(12,iV j5)]∧St w0 w (oB vX) [rI vP zs] [sl 3 1 vX N (ints l5)]∧(i2+1≤j5∧j5≤hi)∧(l5.length=N)∧(Det.InR zs.length l5)∧(Go.Sort.shiftUp (Det.ltP zs) hi j5 l5.toArray=Go.Sort.shiftUp (Det.ltP zs) hi (i2+1) l3.toArray)) (fun g=>match g with | (j5,l5)=>hi-j5) ((i2+1),l3) ?_ ?_
                  · refine ⟨hf.to ⟨rfl,rfl,rfl,rfl,rfl,rfl,rfl,(by first | rfl | exact vI (by omega)),trivial⟩,hS,?_,?_,?_,?_⟩
                    · omega
                    · exact hl3
                    · exact hr3
                    · rfl
                  clear hf hS a; rintro ⟨j5,l5⟩ a w ⟨hf,hS,h4,hl5,hr5,hsu⟩; refine W.seq<|W.seq<|?_
                  refine R3 rfl<|mv hf rfl<|fun a hf=>mv hf rfl fun a hf=>ov (v:=.bool (decide ((j5:Int)<((hi:Int):Int)))) hf rfl (aA.lss rfl rfl) fun a hf=>?_; refine nk ?_; replace hf:Fr a 141 [] [(0,_),(1,_),(2,_),(3,_),(9,_),(10,_),(11,_),(12,_),(109,_)]:=hf.q rfl; refine W.bJ hf rfl (fun hj5=>?_) (fun hj5=>?_)
                  · refine W.skip ?_
                    refine aF<|W.seq<|W.block<|W.seq<|W.seq<|?_
                    refine W.dY (fun w=>St w0 w (oB vX) [rI vP zs] [sl 3 1 vX N (ints l5)]) aV rfl (by kernel_rfl) rfl hS.drew ?_; clear hS; refine q0 hf rfl rfl fun a hf=>q0 hf rfl rfl fun a hf=>q0 hf rfl rfl fun a hf=>OQ.val (v:=ix vX j5) hf rfl (fun w hS=>aA.ixV (j:=j5) (m:=j5) aB aD rfl rfl (hS.slr (j:=0) rfl) rfl (by omega) (Nat.mul_one _)) fun a hf=>OQ.val (v:=iV (l5.getD j5 0)) hf rfl (fun w hS=>aA.ld1 aH rfl (hS.slr (j:=0) rfl) (aI (by omega))) fun a hf=>q0 hf rfl rfl fun a hf=>q0 hf rfl rfl fun a hf=>OQ.val (v:=iV ((j5:Int)-1)) hf rfl (fun w hS=>aA.cZ rfl rfl (by omega)) fun a hf=>OQ.val (v:=ix vX (j5-1)) hf rfl (fun w hS=>aA.ixV (j:=(j5-1)) (m:=(j5-1)) aB aD rfl rfl (hS.slr (j:=0) rfl) (by omega) (by omega) (Nat.mul_one _)) fun a hf=>OQ.val (v:=iV (l5.getD (j5-1) 0)) hf rfl (fun w hS=>aA.ld1 aH rfl (hS.slr (j:=0) rfl) (aI (by omega))) fun a hf=>?_; refine OQ.gT (v:=iV (Det.cfP zs (l5.getD j5 0) (l5.getD (j5-1) 0))) hf rfl (fun w hS=>dS.call (av:=#[(fG fW fH vP),iV (l5.getD j5 0),iV (l5.getD (j5-1) 0)]) dX rfl rfl rfl) (fun w hS=>au fW fH (l5.getD j5 0) (l5.getD (j5-1) 0) vP zs _ (hr5.at (by omega)) (hr5.at (by omega)) (hS.aL (j:=0) rfl)) fun a hf=>OQ.val (v:=.bool (decide ((Det.cfP zs (l5.getD j5 0) (l5.getD (j5-1) 0))<(0:Int)))) hf rfl (fun w hS=>aA.lss rfl rfl) fun a hf=>OQ.val (v:=.bool (!(decide ((Det.cfP zs (l5.getD j5 0) (l5.getD (j5-1) 0))<(0:Int))))) hf rfl (fun w hS=>aA.not rfl) fun a hf=>?_; refine OQ.nil ?_; intro w hS; refine aF ?_; refine W.if_ hf rfl (fun hst5=>?_) (fun hst5=>?_)
                    · have hst5b:=hst5
                      try simp only [bsm] at hst5
                      refine W.exit<|aC<|fT rfl<|aC<|aC<|bD<|aG<|aF<|?_
                      refine R3 rfl<|mv hf rfl<|fun a hf=>ov hf rfl (aA.ak rfl rfl (by omega)) fun a hf=>mv hf rfl fun a hf=>?_; refine O.nil ?_; refine aS ⟨(k+1,i2,l5),⟨hf.to ⟨rfl,rfl,rfl,rfl,(by first | rfl | exact vI (by omega)),(by first | rfl | exact vI (by omega)),trivial⟩,?_,?_,?_,?_,?_,?_⟩,?_⟩
                      · exact hS.eqM rfl
                      · omega
                      · omega
                      · exact hl5
                      · exact hr5
                      · rw [← he]
                        refine (Det.iN (s:=5-k) (l3:=l3) (by omega) hss2 (by omega) (by omega) hsw ?_ ?_).symm
                        · first | rw [if_pos (by omega),← hsd,Det.l8 (by omega)] | rw [if_neg (by omega)]
                        · first | rw [if_pos (by omega),← hsu,Det.jm (by omega)] | rw [if_neg (by omega)]
                      · dsimp only; omega
                    · have hst5b:=hst5
                      try simp only [bsm] at hst5
                      refine W.skip<|aF<|?_
                      have hf1:Fr a 141 [] []:=hf.to trivial; replace hf:Fr a 141 [] [(0,_),(1,_),(2,_),(3,_),(9,_),(10,_),(11,_),(12,_)]:=hf.q rfl
                      let LZ3433:List (Nat × Value):=[(0,vX),(1,iV lo),(2,iV hi),(3,(fB 60 fW fH vP)),(9,iV i2),(10,iV k),(11,iV j3),(12,iV j5)]
                      refine W.dn (γ:=Unit) (L0:=LZ3433) (L1:=[]) () [15,17] [] [0,1,2,3,4,5,6,7,8,9,10,11,12,13,14,16] (fun i_=>match i_ with | 4=>[3] | 7=>[6] | 8=>[5,7] | 9=>[8] | 12=>[10,11] | 13=>[12] | 14=>[0,1] | 15=>[9,14] | 16=>[2,4] | 17=>[13,16] | _=>[]) (fun _=>[]) (fun i_=>match i_ with | 15=>[16,17] | _=>[]) (fun _=>[]) (fun i_=>match i_ with | 16=>1 | 17=>1 | _=>0) (fun i_=>match i_ with | 2=>1 | 3=>1 | 4=>1 | 15=>1 | 16=>1 | 17=>2 | _=>0) (fun (g:Unit) j_=>match g,j_ with | _,0=>vX | _,1=>iV j5 | _,2=>vX | _,3=>iV j5 | _,4=>iV ((j5:Int)-1) | _,5=>vX | _,6=>iV j5 | _,7=>iV ((j5:Int)-1) | _,8=>ix vX (j5-1) | _,9=>iV (l5.getD (j5-1) 0) | _,10=>vX | _,11=>iV j5 | _,12=>ix vX j5 | _,13=>iV (l5.getD j5 0) | _,14=>ix vX j5 | _,16=>ix vX (j5-1) | _,_=>undef) (fun k_ (_:Nat→Bool) (g:Unit) w=>match k_,g with | 0,_=>St w0 w (oB vX) [rI vP zs] [sl 3 1 vX N (ints l5)] | 1,_=>St w0 w (oB vX) [rI vP zs] [sl 3 1 vX N (ints (l5.set j5 (l5.getD (j5-1) 0)))] | _,_=>St w0 w (oB vX) [rI vP zs] [sl 3 1 vX N (ints ((l5.set j5 (l5.getD (j5-1) 0)).set (j5-1) (l5.getD j5 0)))]) aV (by kernel_rfl) (by kernel_rfl) (by kernel_rfl) hf hf1 hS.drew ?_ ?_ trivial ?_
                      · clear hf hf1 hS
                        refine ⟨?_,?_,?_,?_,?_,?_,?_,?_,?_,?_,?_,?_,?_,?_,?_,?_,trivial⟩
                        · exact qq fun _=>rfl
                        · exact qq fun _=>rfl
                        · exact qq fun _=>rfl
                        · exact qq fun _=>rfl
                        · exact fun _ _ _ _ _ _ _ hD _ hf=>qv hf rfl (aA.cZ rfl rfl (by omega)) hD
                        · exact qq fun _=>rfl
                        · exact qq fun _=>rfl
                        · exact fun _ _ _ _ _ _ _ hD _ hf=>qv hf rfl (aA.cZ rfl rfl (by omega)) hD
                        · exact s1 (fun _ _ _ _ hD _ hf=>qv hf rfl (aA.ixV (j:=(j5-1)) (m:=(j5-1)) aB aD rfl rfl (hD.slr (j:=0) rfl) (by omega) (by omega) (Nat.mul_one _)) hD) rfl
                        · exact s1 (fun _ _ _ _ hD _ hf=>qv hf rfl (aA.ld1 aH rfl (hD.slr (j:=0) rfl) (aI (by omega))) hD) rfl
                        · exact qq fun _=>rfl
                        · exact qq fun _=>rfl
                        · exact s1 (fun _ _ _ _ hD _ hf=>qv hf rfl (aA.ixV (j:=j5) (m:=j5) aB aD rfl rfl (hD.slr (j:=0) rfl) rfl (by omega) (Nat.mul_one _)) hD) rfl
                        · exact s1 (fun _ _ _ _ hD _ hf=>qv hf rfl (aA.ld1 aH rfl (hD.slr (j:=0) rfl) (aI (by omega))) hD) rfl
                        · exact s1 (fun _ _ _ _ hD _ hf=>qv hf rfl (aA.ixV (j:=j5) (m:=j5) aB aD rfl rfl (hD.slr (j:=0) rfl) rfl (by omega) (Nat.mul_one _)) hD) rfl
                        · exact s1 (fun _ _ _ _ hD _ hf=>qv hf rfl (aA.ixV (j:=(j5-1)) (m:=(j5-1)) aB aD rfl rfl (hD.slr (j:=0) rfl) (by omega) (by omega) (Nat.mul_one _)) hD) rfl
                      · clear hf hf1 hS
                        refine ⟨?_,?_,trivial⟩
                        · intro s_ g w _ hD a hf
                          have hS:=hD; clear hD; refine O.bF (j:=0) (m:=j5) (xs':=ints (l5.set j5 (l5.getD (j5-1) 0))) (M':=[sl 3 1 vX N (ints (l5.set j5 (l5.getD (j5-1) 0)))]) hf hS rfl rfl rfl aD rfl rfl rfl (by simp only [ai,List.length_set]; omega) ints_set rfl rfl ?_; intro w hS; exact nU hf rfl (fun _=>rfl) hS
                        · intro s_ g w _ hD a hf
                          have hS:=hD; clear hD; refine O.bF (j:=0) (m:=(j5-1)) (xs':=ints ((l5.set j5 (l5.getD (j5-1) 0)).set (j5-1) (l5.getD j5 0))) (M':=[sl 3 1 vX N (ints ((l5.set j5 (l5.getD (j5-1) 0)).set (j5-1) (l5.getD j5 0)))]) hf hS rfl rfl rfl aD rfl rfl rfl (by simp only [ai,List.length_set]; omega) ints_set rfl rfl ?_; intro w hS; exact nU hf rfl (fun _=>rfl) hS
                      clear hf hf1 hS; intro s_ g a w _ hf hD; have hS:=hD; clear hD; replace hf:Fr a 141 [] ((125,vX)::(126,iV j5)::(127,vX)::(128,iV j5)::(129,iV ((j5:Int)-1))::(130,vX)::(131,iV j5)::(132,iV ((j5:Int)-1))::(133,ix vX (j5-1))::(134,iV (l5.getD (j5-1) 0))::(135,vX)::(136,iV j5)::(137,ix vX j5)::(138,iV (l5.getD j5 0))::(139,ix vX j5)::(140,ix vX (j5-1))::LZ3433):=hf; have hsw0:=hsw; clear hsw; obtain ⟨l6,hsw⟩:∃ q,Det.swL l5 j5 (j5-1)=q:=⟨_,rfl⟩; have hl6:l6.length=N:=by rw [← hsw,Det.dW]; exact hl5
                      have hr6:Det.InR zs.length l6:=by rw [← hsw]; exact hr5.sw (by omega) (by omega)
                      replace hS:=hS.eqM (N:=[sl 3 1 vX N (ints l6)]) (by rw [← hsw]; rfl); refine aG<|aF<|?_
                      refine R3 rfl<|mv hf rfl<|fun a hf=>ov hf rfl (aA.ak rfl rfl (by omega)) fun a hf=>mv hf rfl fun a hf=>?_; refine O.nil ?_; refine aS ⟨(j5+1,l6),⟨hf.to ⟨rfl,rfl,rfl,rfl,rfl,rfl,rfl,(by first | rfl | exact vI (by omega)),trivial⟩,?_,?_,?_,?_,?_⟩,?_⟩
                      · exact hS.eqM rfl
                      · omega
                      · exact hl6
                      · exact hr6
                      · rw [← hsu,Det.wh (j:=j5) (l:=l5) (by omega) (by omega),hsw]
                      · dsimp only; omega
                  · refine W.exit ?_
                    refine aC<|aC<|bD<|aG<|aF<|?_
                    refine R3 rfl<|mv hf rfl<|fun a hf=>ov hf rfl (aA.ak rfl rfl (by omega)) fun a hf=>mv hf rfl fun a hf=>?_; refine O.nil ?_; refine aS ⟨(k+1,i2,l5),⟨hf.to ⟨rfl,rfl,rfl,rfl,(by first | rfl | exact vI (by omega)),(by first | rfl | exact vI (by omega)),trivial⟩,?_,?_,?_,?_,?_,?_⟩,?_⟩
                    · exact hS.eqM rfl
                    · omega
                    · omega
                    · exact hl5
                    · exact hr5
                    · rw [← he]
                      refine (Det.iN (s:=5-k) (l3:=l3) (by omega) hss2 (by omega) (by omega) hsw ?_ ?_).symm
                      · first | rw [if_pos (by omega),← hsd,Det.l8 (by omega)] | rw [if_neg (by omega)]
                      · first | rw [if_pos (by omega),← hsu,Det.jm (by omega)] | rw [if_neg (by omega)]
                    · dsimp only; omega
                · refine W.skip ?_
                  refine aG<|aF<|?_
                  refine R3 rfl<|mv hf rfl<|fun a hf=>ov hf rfl (aA.ak rfl rfl (by omega)) fun a hf=>mv hf rfl fun a hf=>?_; refine O.nil ?_; refine aS ⟨(k+1,i2,l3),⟨hf.to ⟨rfl,rfl,rfl,rfl,(by first | rfl | exact vI (by omega)),(by first | rfl | exact vI (by omega)),trivial⟩,?_,?_,?_,?_,?_,?_⟩,?_⟩
                  · exact hS.eqM rfl
                  · omega
                  · omega
                  · exact hl3
                  · exact hr3
                  · rw [← he]
                    refine (Det.iN (s:=5-k) (l3:=l3) (by omega) hss2 (by omega) (by omega) hsw ?_ ?_).symm
                    · first | rw [if_pos (by omega),← hsd,Det.l8 (by omega)] | rw [if_neg (by omega)]
                    · first | rw [if_pos (by omega),← hsu,Det.jm (by omega)] | rw [if_neg (by omega)]
                  · dsimp only; omega
              · have hst3b:=hst3
                try simp only [bsm] at hst3
                refine W.skip<|aF<|?_
                have hf1:Fr a 141 [] []:=hf.to trivial; replace hf:Fr a 141 [] [(0,_),(1,_),(2,_),(3,_),(9,_),(10,_),(11,_)]:=hf.q rfl
                let LZ3663:List (Nat × Value):=[(0,vX),(1,iV lo),(2,iV hi),(3,(fB 60 fW fH vP)),(9,iV i2),(10,iV k),(11,iV j3)]
                refine W.dn (γ:=Unit) (L0:=LZ3663) (L1:=[]) () [15,17] [] [0,1,2,3,4,5,6,7,8,9,10,11,12,13,14,16] (fun i_=>match i_ with | 4=>[3] | 7=>[6] | 8=>[5,7] | 9=>[8] | 12=>[10,11] | 13=>[12] | 14=>[0,1] | 15=>[9,14] | 16=>[2,4] | 17=>[13,16] | _=>[]) (fun _=>[]) (fun i_=>match i_ with | 15=>[16,17] | _=>[]) (fun _=>[]) (fun i_=>match i_ with | 16=>1 | 17=>1 | _=>0) (fun i_=>match i_ with | 2=>1 | 3=>1 | 4=>1 | 15=>1 | 16=>1 | 17=>2 | _=>0) (fun (g:Unit) j_=>match g,j_ with | _,0=>vX | _,1=>iV j3 | _,2=>vX | _,3=>iV j3 | _,4=>iV ((j3:Int)-1) | _,5=>vX | _,6=>iV j3 | _,7=>iV ((j3:Int)-1) | _,8=>ix vX (j3-1) | _,9=>iV (l3.getD (j3-1) 0) | _,10=>vX | _,11=>iV j3 | _,12=>ix vX j3 | _,13=>iV (l3.getD j3 0) | _,14=>ix vX j3 | _,16=>ix vX (j3-1) | _,_=>undef) (fun k_ (_:Nat→Bool) (g:Unit) w=>match k_,g with | 0,_=>St w0 w (oB vX) [rI vP zs] [sl 3 1 vX N (ints l3)] | 1,_=>St w0 w (oB vX) [rI vP zs] [sl 3 1 vX N (ints (l3.set j3 (l3.getD (j3-1) 0)))] | _,_=>St w0 w (oB vX) [rI vP zs] [sl 3 1 vX N (ints ((l3.set j3 (l3.getD (j3-1) 0)).set (j3-1) (l3.getD j3 0)))]) aV (by kernel_rfl) (by kernel_rfl) (by kernel_rfl) hf hf1 hS.drew ?_ ?_ trivial ?_
                · clear hf hf1 hS
                  refine ⟨?_,?_,?_,?_,?_,?_,?_,?_,?_,?_,?_,?_,?_,?_,?_,?_,trivial⟩
                  · exact qq fun _=>rfl
                  · exact qq fun _=>rfl
                  · exact qq fun _=>rfl
                  · exact qq fun _=>rfl
                  · exact fun _ _ _ _ _ _ _ hD _ hf=>qv hf rfl (aA.cZ rfl rfl (by omega)) hD
                  · exact qq fun _=>rfl
                  · exact qq fun _=>rfl
                  · exact fun _ _ _ _ _ _ _ hD _ hf=>qv hf rfl (aA.cZ rfl rfl (by omega)) hD
                  · exact s1 (fun _ _ _ _ hD _ hf=>qv hf rfl (aA.ixV (j:=(j3-1)) (m:=(j3-1)) aB aD rfl rfl (hD.slr (j:=0) rfl) (by omega) (by omega) (Nat.mul_one _)) hD) rfl
                  · exact s1 (fun _ _ _ _ hD _ hf=>qv hf rfl (aA.ld1 aH rfl (hD.slr (j:=0) rfl) (aI (by omega))) hD) rfl
                  · exact qq fun _=>rfl
                  · exact qq fun _=>rfl
                  · exact s1 (fun _ _ _ _ hD _ hf=>qv hf rfl (aA.ixV (j:=j3) (m:=j3) aB aD rfl rfl (hD.slr (j:=0) rfl) rfl (by omega) (Nat.mul_one _)) hD) rfl
                  · exact s1 (fun _ _ _ _ hD _ hf=>qv hf rfl (aA.ld1 aH rfl (hD.slr (j:=0) rfl) (aI (by omega))) hD) rfl
                  · exact s1 (fun _ _ _ _ hD _ hf=>qv hf rfl (aA.ixV (j:=j3) (m:=j3) aB aD rfl rfl (hD.slr (j:=0) rfl) rfl (by omega) (Nat.mul_one _)) hD) rfl
                  · exact s1 (fun _ _ _ _ hD _ hf=>qv hf rfl (aA.ixV (j:=(j3-1)) (m:=(j3-1)) aB aD rfl rfl (hD.slr (j:=0) rfl) (by omega) (by omega) (Nat.mul_one _)) hD) rfl
                · clear hf hf1 hS
                  refine ⟨?_,?_,trivial⟩
                  · intro s_ g w _ hD a hf
                    have hS:=hD; clear hD; refine O.bF (j:=0) (m:=j3) (xs':=ints (l3.set j3 (l3.getD (j3-1) 0))) (M':=[sl 3 1 vX N (ints (l3.set j3 (l3.getD (j3-1) 0)))]) hf hS rfl rfl rfl aD rfl rfl rfl (by simp only [ai,List.length_set]; omega) ints_set rfl rfl ?_; intro w hS; exact nU hf rfl (fun _=>rfl) hS
                  · intro s_ g w _ hD a hf
                    have hS:=hD; clear hD; refine O.bF (j:=0) (m:=(j3-1)) (xs':=ints ((l3.set j3 (l3.getD (j3-1) 0)).set (j3-1) (l3.getD j3 0))) (M':=[sl 3 1 vX N (ints ((l3.set j3 (l3.getD (j3-1) 0)).set (j3-1) (l3.getD j3 0)))]) hf hS rfl rfl rfl aD rfl rfl rfl (by simp only [ai,List.length_set]; omega) ints_set rfl rfl ?_; intro w hS; exact nU hf rfl (fun _=>rfl) hS
                clear hf hf1 hS; intro s_ g a w _ hf hD; have hS:=hD; clear hD; replace hf:Fr a 141 [] ((85,vX)::(86,iV j3)::(87,vX)::(88,iV j3)::(89,iV ((j3:Int)-1))::(90,vX)::(91,iV j3)::(92,iV ((j3:Int)-1))::(93,ix vX (j3-1))::(94,iV (l3.getD (j3-1) 0))::(95,vX)::(96,iV j3)::(97,ix vX j3)::(98,iV (l3.getD j3 0))::(99,ix vX j3)::(100,ix vX (j3-1))::LZ3663):=hf; have hsw0:=hsw; clear hsw; obtain ⟨l4,hsw⟩:∃ q,Det.swL l3 j3 (j3-1)=q:=⟨_,rfl⟩; have hl4:l4.length=N:=by rw [← hsw,Det.dW]; exact hl3
                have hr4:Det.InR zs.length l4:=by rw [← hsw]; exact hr3.sw (by omega) (by omega)
                replace hS:=hS.eqM (N:=[sl 3 1 vX N (ints l4)]) (by rw [← hsw]; rfl); refine aG<|aF<|?_
                refine R3 rfl<|mv hf rfl<|fun a hf=>ov hf rfl (aA.cZ rfl rfl (by omega)) fun a hf=>mv hf rfl fun a hf=>?_; refine O.nil ?_; refine aS ⟨(j3-1,l4),⟨hf.to ⟨rfl,rfl,rfl,rfl,rfl,rfl,(by first | rfl | exact vI (by omega)),trivial⟩,?_,?_,?_,?_,?_⟩,?_⟩
                · exact hS.eqM rfl
                · omega
                · exact hl4
                · exact hr4
                · rw [← hsd,Det.aEX (j:=j3) (l:=l3) (by omega) (by omega),hsw]
                · dsimp only; omega
            · refine W.exit ?_
              refine aC<|aC<|bD<|aF<|W.seq<|?_
              refine R4 rfl<|mv hf rfl<|fun a hf=>mv hf rfl fun a hf=>ov hf rfl (aA.cZ rfl rfl (by omega)) fun a hf=>ov (v:=.bool (decide (((hi:Int)-(i2:Int))≥(2:Int)))) hf rfl (aA.geq rfl rfl) fun a hf=>?_; refine nk ?_; refine W.bJ hf rfl (fun hge2=>?_) (fun hge2=>?_)
              · refine W.seq ?_
                refine R3 rfl<|mv hf rfl<|fun a hf=>ov hf rfl (aA.ak rfl rfl (by omega)) fun a hf=>mv hf rfl fun a hf=>?_; refine nk ?_; replace hf:Fr a 141 [] [(0,_),(1,_),(2,_),(3,_),(9,_),(10,_),(11,_),(12,_)]:=hf.q rfl; refine W.block ?_
                refine W.loop (G:=(Nat) × (List Int)) (fun g a w=>match g with | (j5,l5)=>Fr a 141 [] [(0,vX),(1,iV lo),(2,iV hi),(3,(fB 60 fW fH vP)),(9,iV i2),(10,iV k),(11,iV j3),(12,iV j5)]∧St w0 w (oB vX) [rI vP zs] [sl 3 1 vX N (ints l5)]∧(i2+1≤j5∧j5≤hi)∧(l5.length=N)∧(Det.InR zs.length l5)∧(Go.Sort.shiftUp (Det.ltP zs) hi j5 l5.toArray=Go.Sort.shiftUp (Det.ltP zs) hi (i2+1) l3.toArray)) (fun g=>match g with | (j5,l5)=>hi-j5) ((i2+1),l3) ?_ ?_
                · refine ⟨hf.to ⟨rfl,rfl,rfl,rfl,rfl,rfl,rfl,(by first | rfl | exact vI (by omega)),trivial⟩,hS,?_,?_,?_,?_⟩
                  · omega
                  · exact hl3
                  · exact hr3
                  · rfl
                clear hf hS a; rintro ⟨j5,l5⟩ a w ⟨hf,hS,h4,hl5,hr5,hsu⟩; refine W.seq<|W.seq<|?_
                refine R3 rfl<|mv hf rfl<|fun a hf=>mv hf rfl fun a hf=>ov (v:=.bool (decide ((j5:Int)<((hi:Int):Int)))) hf rfl (aA.lss rfl rfl) fun a hf=>?_; refine nk ?_; replace hf:Fr a 141 [] [(0,_),(1,_),(2,_),(3,_),(9,_),(10,_),(11,_),(12,_),(109,_)]:=hf.q rfl; refine W.bJ hf rfl (fun hj5=>?_) (fun hj5=>?_)
                · refine W.skip ?_
                  refine aF<|W.seq<|W.block<|W.seq<|W.seq<|?_
                  refine W.dY (fun w=>St w0 w (oB vX) [rI vP zs] [sl 3 1 vX N (ints l5)]) aV rfl (by kernel_rfl) rfl hS.drew ?_; clear hS; refine q0 hf rfl rfl fun a hf=>q0 hf rfl rfl fun a hf=>q0 hf rfl rfl fun a hf=>OQ.val (v:=ix vX j5) hf rfl (fun w hS=>aA.ixV (j:=j5) (m:=j5) aB aD rfl rfl (hS.slr (j:=0) rfl) rfl (by omega) (Nat.mul_one _)) fun a hf=>OQ.val (v:=iV (l5.getD j5 0)) hf rfl (fun w hS=>aA.ld1 aH rfl (hS.slr (j:=0) rfl) (aI (by omega))) fun a hf=>q0 hf rfl rfl fun a hf=>q0 hf rfl rfl fun a hf=>OQ.val (v:=iV ((j5:Int)-1)) hf rfl (fun w hS=>aA.cZ rfl rfl (by omega)) fun a hf=>OQ.val (v:=ix vX (j5-1)) hf rfl (fun w hS=>aA.ixV (j:=(j5-1)) (m:=(j5-1)) aB aD rfl rfl (hS.slr (j:=0) rfl) (by omega) (by omega) (Nat.mul_one _)) fun a hf=>OQ.val (v:=iV (l5.getD (j5-1) 0)) hf rfl (fun w hS=>aA.ld1 aH rfl (hS.slr (j:=0) rfl) (aI (by omega))) fun a hf=>?_; refine OQ.gT (v:=iV (Det.cfP zs (l5.getD j5 0) (l5.getD (j5-1) 0))) hf rfl (fun w hS=>dS.call (av:=#[(fG fW fH vP),iV (l5.getD j5 0),iV (l5.getD (j5-1) 0)]) dX rfl rfl rfl) (fun w hS=>au fW fH (l5.getD j5 0) (l5.getD (j5-1) 0) vP zs _ (hr5.at (by omega)) (hr5.at (by omega)) (hS.aL (j:=0) rfl)) fun a hf=>OQ.val (v:=.bool (decide ((Det.cfP zs (l5.getD j5 0) (l5.getD (j5-1) 0))<(0:Int)))) hf rfl (fun w hS=>aA.lss rfl rfl) fun a hf=>OQ.val (v:=.bool (!(decide ((Det.cfP zs (l5.getD j5 0) (l5.getD (j5-1) 0))<(0:Int))))) hf rfl (fun w hS=>aA.not rfl) fun a hf=>?_; refine OQ.nil ?_; intro w hS; refine aF ?_; refine W.if_ hf rfl (fun hst5=>?_) (fun hst5=>?_)
                  · have hst5b:=hst5
                    try simp only [bsm] at hst5
                    refine W.exit<|aC<|fT rfl<|aC<|aC<|bD<|aG<|aF<|?_
                    refine R3 rfl<|mv hf rfl<|fun a hf=>ov hf rfl (aA.ak rfl rfl (by omega)) fun a hf=>mv hf rfl fun a hf=>?_; refine O.nil ?_; refine aS ⟨(k+1,i2,l5),⟨hf.to ⟨rfl,rfl,rfl,rfl,(by first | rfl | exact vI (by omega)),(by first | rfl | exact vI (by omega)),trivial⟩,?_,?_,?_,?_,?_,?_⟩,?_⟩
                    · exact hS.eqM rfl
                    · omega
                    · omega
                    · exact hl5
                    · exact hr5
                    · rw [← he]
                      refine (Det.iN (s:=5-k) (l3:=l3) (by omega) hss2 (by omega) (by omega) hsw ?_ ?_).symm
                      · first | rw [if_pos (by omega),← hsd,Det.l8 (by omega)] | rw [if_neg (by omega)]
                      · first | rw [if_pos (by omega),← hsu,Det.jm (by omega)] | rw [if_neg (by omega)]
                    · dsimp only; omega
                  · have hst5b:=hst5
                    try simp only [bsm] at hst5
                    refine W.skip<|aF<|?_
                    have hf1:Fr a 141 [] []:=hf.to trivial; replace hf:Fr a 141 [] [(0,_),(1,_),(2,_),(3,_),(9,_),(10,_),(11,_),(12,_)]:=hf.q rfl
                    let LZ3956:List (Nat × Value):=[(0,vX),(1,iV lo),(2,iV hi),(3,(fB 60 fW fH vP)),(9,iV i2),(10,iV k),(11,iV j3),(12,iV j5)]
                    refine W.dn (γ:=Unit) (L0:=LZ3956) (L1:=[]) () [15,17] [] [0,1,2,3,4,5,6,7,8,9,10,11,12,13,14,16] (fun i_=>match i_ with | 4=>[3] | 7=>[6] | 8=>[5,7] | 9=>[8] | 12=>[10,11] | 13=>[12] | 14=>[0,1] | 15=>[9,14] | 16=>[2,4] | 17=>[13,16] | _=>[]) (fun _=>[]) (fun i_=>match i_ with | 15=>[16,17] | _=>[]) (fun _=>[]) (fun i_=>match i_ with | 16=>1 | 17=>1 | _=>0) (fun i_=>match i_ with | 2=>1 | 3=>1 | 4=>1 | 15=>1 | 16=>1 | 17=>2 | _=>0) (fun (g:Unit) j_=>match g,j_ with | _,0=>vX | _,1=>iV j5 | _,2=>vX | _,3=>iV j5 | _,4=>iV ((j5:Int)-1) | _,5=>vX | _,6=>iV j5 | _,7=>iV ((j5:Int)-1) | _,8=>ix vX (j5-1) | _,9=>iV (l5.getD (j5-1) 0) | _,10=>vX | _,11=>iV j5 | _,12=>ix vX j5 | _,13=>iV (l5.getD j5 0) | _,14=>ix vX j5 | _,16=>ix vX (j5-1) | _,_=>undef) (fun k_ (_:Nat→Bool) (g:Unit) w=>match k_,g with | 0,_=>St w0 w (oB vX) [rI vP zs] [sl 3 1 vX N (ints l5)] | 1,_=>St w0 w (oB vX) [rI vP zs] [sl 3 1 vX N (ints (l5.set j5 (l5.getD (j5-1) 0)))] | _,_=>St w0 w (oB vX) [rI vP zs] [sl 3 1 vX N (ints ((l5.set j5 (l5.getD (j5-1) 0)).set (j5-1) (l5.getD j5 0)))]) aV (by kernel_rfl) (by kernel_rfl) (by kernel_rfl) hf hf1 hS.drew ?_ ?_ trivial ?_
                    · clear hf hf1 hS
                      refine ⟨?_,?_,?_,?_,?_,?_,?_,?_,?_,?_,?_,?_,?_,?_,?_,?_,trivial⟩
                      · exact qq fun _=>rfl
                      · exact qq fun _=>rfl
                      · exact qq fun _=>rfl
                      · exact qq fun _=>rfl
                      · exact fun _ _ _ _ _ _ _ hD _ hf=>qv hf rfl (aA.cZ rfl rfl (by omega)) hD
                      · exact qq fun _=>rfl
                      · exact qq fun _=>rfl
                      · exact fun _ _ _ _ _ _ _ hD _ hf=>qv hf rfl (aA.cZ rfl rfl (by omega)) hD
                      · exact s1 (fun _ _ _ _ hD _ hf=>qv hf rfl (aA.ixV (j:=(j5-1)) (m:=(j5-1)) aB aD rfl rfl (hD.slr (j:=0) rfl) (by omega) (by omega) (Nat.mul_one _)) hD) rfl
                      · exact s1 (fun _ _ _ _ hD _ hf=>qv hf rfl (aA.ld1 aH rfl (hD.slr (j:=0) rfl) (aI (by omega))) hD) rfl
                      · exact qq fun _=>rfl
                      · exact qq fun _=>rfl
                      · exact s1 (fun _ _ _ _ hD _ hf=>qv hf rfl (aA.ixV (j:=j5) (m:=j5) aB aD rfl rfl (hD.slr (j:=0) rfl) rfl (by omega) (Nat.mul_one _)) hD) rfl
                      · exact s1 (fun _ _ _ _ hD _ hf=>qv hf rfl (aA.ld1 aH rfl (hD.slr (j:=0) rfl) (aI (by omega))) hD) rfl
                      · exact s1 (fun _ _ _ _ hD _ hf=>qv hf rfl (aA.ixV (j:=j5) (m:=j5) aB aD rfl rfl (hD.slr (j:=0) rfl) rfl (by omega) (Nat.mul_one _)) hD) rfl
                      · exact s1 (fun _ _ _ _ hD _ hf=>qv hf rfl (aA.ixV (j:=(j5-1)) (m:=(j5-1)) aB aD rfl rfl (hD.slr (j:=0) rfl) (by omega) (by omega) (Nat.mul_one _)) hD) rfl
                    · clear hf hf1 hS
                      refine ⟨?_,?_,trivial⟩
                      · intro s_ g w _ hD a hf
                        have hS:=hD; clear hD; refine O.bF (j:=0) (m:=j5) (xs':=ints (l5.set j5 (l5.getD (j5-1) 0))) (M':=[sl 3 1 vX N (ints (l5.set j5 (l5.getD (j5-1) 0)))]) hf hS rfl rfl rfl aD rfl rfl rfl (by simp only [ai,List.length_set]; omega) ints_set rfl rfl ?_; intro w hS; exact nU hf rfl (fun _=>rfl) hS
                      · intro s_ g w _ hD a hf
                        have hS:=hD; clear hD; refine O.bF (j:=0) (m:=(j5-1)) (xs':=ints ((l5.set j5 (l5.getD (j5-1) 0)).set (j5-1) (l5.getD j5 0))) (M':=[sl 3 1 vX N (ints ((l5.set j5 (l5.getD (j5-1) 0)).set (j5-1) (l5.getD j5 0)))]) hf hS rfl rfl rfl aD rfl rfl rfl (by simp only [ai,List.length_set]; omega) ints_set rfl rfl ?_; intro w hS; exact nU hf rfl (fun _=>rfl) hS
                    clear hf hf1 hS; intro s_ g a w _ hf hD; have hS:=hD; clear hD; replace hf:Fr a 141 [] ((125,vX)::(126,iV j5)::(127,vX)::(128,iV j5)::(129,iV ((j5:Int)-1))::(130,vX)::(131,iV j5)::(132,iV ((j5:Int)-1))::(133,ix vX (j5-1))::(134,iV (l5.getD (j5-1) 0))::(135,vX)::(136,iV j5)::(137,ix vX j5)::(138,iV (l5.getD j5 0))::(139,ix vX j5)::(140,ix vX (j5-1))::LZ3956):=hf; have hsw0:=hsw; clear hsw; obtain ⟨l6,hsw⟩:∃ q,Det.swL l5 j5 (j5-1)=q:=⟨_,rfl⟩; have hl6:l6.length=N:=by rw [← hsw,Det.dW]; exact hl5
                    have hr6:Det.InR zs.length l6:=by rw [← hsw]; exact hr5.sw (by omega) (by omega)
                    replace hS:=hS.eqM (N:=[sl 3 1 vX N (ints l6)]) (by rw [← hsw]; rfl); refine aG<|aF<|?_
                    refine R3 rfl<|mv hf rfl<|fun a hf=>ov hf rfl (aA.ak rfl rfl (by omega)) fun a hf=>mv hf rfl fun a hf=>?_; refine O.nil ?_; refine aS ⟨(j5+1,l6),⟨hf.to ⟨rfl,rfl,rfl,rfl,rfl,rfl,rfl,(by first | rfl | exact vI (by omega)),trivial⟩,?_,?_,?_,?_,?_⟩,?_⟩
                    · exact hS.eqM rfl
                    · omega
                    · exact hl6
                    · exact hr6
                    · rw [← hsu,Det.wh (j:=j5) (l:=l5) (by omega) (by omega),hsw]
                    · dsimp only; omega
                · refine W.exit ?_
                  refine aC<|aC<|bD<|aG<|aF<|?_
                  refine R3 rfl<|mv hf rfl<|fun a hf=>ov hf rfl (aA.ak rfl rfl (by omega)) fun a hf=>mv hf rfl fun a hf=>?_; refine O.nil ?_; refine aS ⟨(k+1,i2,l5),⟨hf.to ⟨rfl,rfl,rfl,rfl,(by first | rfl | exact vI (by omega)),(by first | rfl | exact vI (by omega)),trivial⟩,?_,?_,?_,?_,?_,?_⟩,?_⟩
                  · exact hS.eqM rfl
                  · omega
                  · omega
                  · exact hl5
                  · exact hr5
                  · rw [← he]
                    refine (Det.iN (s:=5-k) (l3:=l3) (by omega) hss2 (by omega) (by omega) hsw ?_ ?_).symm
                    · first | rw [if_pos (by omega),← hsd,Det.l8 (by omega)] | rw [if_neg (by omega)]
                    · first | rw [if_pos (by omega),← hsu,Det.jm (by omega)] | rw [if_neg (by omega)]
                  · dsimp only; omega
              · refine W.skip ?_
                refine aG<|aF<|?_
                refine R3 rfl<|mv hf rfl<|fun a hf=>ov hf rfl (aA.ak rfl rfl (by omega)) fun a hf=>mv hf rfl fun a hf=>?_; refine O.nil ?_; refine aS ⟨(k+1,i2,l3),⟨hf.to ⟨rfl,rfl,rfl,rfl,(by first | rfl | exact vI (by omega)),(by first | rfl | exact vI (by omega)),trivial⟩,?_,?_,?_,?_,?_,?_⟩,?_⟩
                · exact hS.eqM rfl
                · omega
                · omega
                · exact hl3
                · exact hr3
                · rw [← he]
                  refine (Det.iN (s:=5-k) (l3:=l3) (by omega) hss2 (by omega) (by omega) hsw ?_ ?_).symm
                  · first | rw [if_pos (by omega),← hsd,Det.l8 (by omega)] | rw [if_neg (by omega)]
                  · first | rw [if_pos (by omega),← hsu,Det.jm (by omega)] | rw [if_neg (by omega)]
                · dsimp only; omega
          · refine W.skip ?_
            refine aF<|W.seq<|?_
            refine R4 rfl<|mv hf rfl<|fun a hf=>mv hf rfl fun a hf=>ov hf rfl (aA.cZ rfl rfl (by omega)) fun a hf=>ov (v:=.bool (decide (((hi:Int)-(i2:Int))≥(2:Int)))) hf rfl (aA.geq rfl rfl) fun a hf=>?_; refine nk ?_; refine W.bJ hf rfl (fun hge2=>?_) (fun hge2=>?_)
            · refine W.seq ?_
              refine R3 rfl<|mv hf rfl<|fun a hf=>ov hf rfl (aA.ak rfl rfl (by omega)) fun a hf=>mv hf rfl fun a hf=>?_; refine nk ?_; replace hf:Fr a 141 [] [(0,_),(1,_),(2,_),(3,_),(9,_),(10,_),(12,_)]:=hf.q rfl; refine W.block ?_
              refine W.loop (G:=(Nat) × (List Int)) (fun g a w=>match g with | (j5,l5)=>Fr a 141 [] [(0,vX),(1,iV lo),(2,iV hi),(3,(fB 60 fW fH vP)),(9,iV i2),(10,iV k),(12,iV j5)]∧St w0 w (oB vX) [rI vP zs] [sl 3 1 vX N (ints l5)]∧(i2+1≤j5∧j5≤hi)∧(l5.length=N)∧(Det.InR zs.length l5)∧(Go.Sort.shiftUp (Det.ltP zs) hi j5 l5.toArray=Go.Sort.shiftUp (Det.ltP zs) hi (i2+1) l2.toArray)) (fun g=>match g with | (j5,l5)=>hi-j5) ((i2+1),l2) ?_ ?_
              · refine ⟨hf.to ⟨rfl,rfl,rfl,rfl,rfl,rfl,(by first | rfl | exact vI (by omega)),trivial⟩,hS,?_,?_,?_,?_⟩
                · omega
                · exact hl2
                · exact hr2
                · rfl
              clear hf hS a; rintro ⟨j5,l5⟩ a w ⟨hf,hS,h4,hl5,hr5,hsu⟩; refine W.seq<|W.seq<|?_
              refine R3 rfl<|mv hf rfl<|fun a hf=>mv hf rfl fun a hf=>ov (v:=.bool (decide ((j5:Int)<((hi:Int):Int)))) hf rfl (aA.lss rfl rfl) fun a hf=>?_; refine nk ?_; replace hf:Fr a 141 [] [(0,_),(1,_),(2,_),(3,_),(9,_),(10,_),(12,_),(109,_)]:=hf.q rfl; refine W.bJ hf rfl (fun hj5=>?_) (fun hj5=>?_)
              · refine W.skip ?_
                refine aF<|W.seq<|W.block<|W.seq<|W.seq<|?_
                refine W.dY (fun w=>St w0 w (oB vX) [rI vP zs] [sl 3 1 vX N (ints l5)]) aV rfl (by kernel_rfl) rfl hS.drew ?_; clear hS; refine q0 hf rfl rfl fun a hf=>q0 hf rfl rfl fun a hf=>q0 hf rfl rfl fun a hf=>OQ.val (v:=ix vX j5) hf rfl (fun w hS=>aA.ixV (j:=j5) (m:=j5) aB aD rfl rfl (hS.slr (j:=0) rfl) rfl (by omega) (Nat.mul_one _)) fun a hf=>OQ.val (v:=iV (l5.getD j5 0)) hf rfl (fun w hS=>aA.ld1 aH rfl (hS.slr (j:=0) rfl) (aI (by omega))) fun a hf=>q0 hf rfl rfl fun a hf=>q0 hf rfl rfl fun a hf=>OQ.val (v:=iV ((j5:Int)-1)) hf rfl (fun w hS=>aA.cZ rfl rfl (by omega)) fun a hf=>OQ.val (v:=ix vX (j5-1)) hf rfl (fun w hS=>aA.ixV (j:=(j5-1)) (m:=(j5-1)) aB aD rfl rfl (hS.slr (j:=0) rfl) (by omega) (by omega) (Nat.mul_one _)) fun a hf=>OQ.val (v:=iV (l5.getD (j5-1) 0)) hf rfl (fun w hS=>aA.ld1 aH rfl (hS.slr (j:=0) rfl) (aI (by omega))) fun a hf=>?_; refine OQ.gT (v:=iV (Det.cfP zs (l5.getD j5 0) (l5.getD (j5-1) 0))) hf rfl (fun w hS=>dS.call (av:=#[(fG fW fH vP),iV (l5.getD j5 0),iV (l5.getD (j5-1) 0)]) dX rfl rfl rfl) (fun w hS=>au fW fH (l5.getD j5 0) (l5.getD (j5-1) 0) vP zs _ (hr5.at (by omega)) (hr5.at (by omega)) (hS.aL (j:=0) rfl)) fun a hf=>OQ.val (v:=.bool (decide ((Det.cfP zs (l5.getD j5 0) (l5.getD (j5-1) 0))<(0:Int)))) hf rfl (fun w hS=>aA.lss rfl rfl) fun a hf=>OQ.val (v:=.bool (!(decide ((Det.cfP zs (l5.getD j5 0) (l5.getD (j5-1) 0))<(0:Int))))) hf rfl (fun w hS=>aA.not rfl) fun a hf=>?_; refine OQ.nil ?_; intro w hS; refine aF ?_; refine W.if_ hf rfl (fun hst5=>?_) (fun hst5=>?_)
                · have hst5b:=hst5
                  try simp only [bsm] at hst5
                  refine W.exit<|aC<|fT rfl<|aC<|aC<|bD<|aG<|aF<|?_
                  refine R3 rfl<|mv hf rfl<|fun a hf=>ov hf rfl (aA.ak rfl rfl (by omega)) fun a hf=>mv hf rfl fun a hf=>?_; refine O.nil ?_; refine aS ⟨(k+1,i2,l5),⟨hf.to ⟨rfl,rfl,rfl,rfl,(by first | rfl | exact vI (by omega)),(by first | rfl | exact vI (by omega)),trivial⟩,?_,?_,?_,?_,?_,?_⟩,?_⟩
                  · exact hS.eqM rfl
                  · omega
                  · omega
                  · exact hl5
                  · exact hr5
                  · rw [← he]
                    refine (Det.iN (s:=5-k) (l3:=l2) (by omega) hss2 (by omega) (by omega) hsw ?_ ?_).symm
                    · first | rw [if_pos (by omega),← hsd,Det.l8 (by omega)] | rw [if_neg (by omega)]
                    · first | rw [if_pos (by omega),← hsu,Det.jm (by omega)] | rw [if_neg (by omega)]
                  · dsimp only; omega
                · have hst5b:=hst5
                  try simp only [bsm] at hst5
                  refine W.skip<|aF<|?_
                  have hf1:Fr a 141 [] []:=hf.to trivial; replace hf:Fr a 141 [] [(0,_),(1,_),(2,_),(3,_),(9,_),(10,_),(12,_)]:=hf.q rfl
                  let LZ4295:List (Nat × Value):=[(0,vX),(1,iV lo),(2,iV hi),(3,(fB 60 fW fH vP)),(9,iV i2),(10,iV k),(12,iV j5)]
                  refine W.dn (γ:=Unit) (L0:=LZ4295) (L1:=[]) () [15,17] [] [0,1,2,3,4,5,6,7,8,9,10,11,12,13,14,16] (fun i_=>match i_ with | 4=>[3] | 7=>[6] | 8=>[5,7] | 9=>[8] | 12=>[10,11] | 13=>[12] | 14=>[0,1] | 15=>[9,14] | 16=>[2,4] | 17=>[13,16] | _=>[]) (fun _=>[]) (fun i_=>match i_ with | 15=>[16,17] | _=>[]) (fun _=>[]) (fun i_=>match i_ with | 16=>1 | 17=>1 | _=>0) (fun i_=>match i_ with | 2=>1 | 3=>1 | 4=>1 | 15=>1 | 16=>1 | 17=>2 | _=>0) (fun (g:Unit) j_=>match g,j_ with | _,0=>vX | _,1=>iV j5 | _,2=>vX | _,3=>iV j5 | _,4=>iV ((j5:Int)-1) | _,5=>vX | _,6=>iV j5 | _,7=>iV ((j5:Int)-1) | _,8=>ix vX (j5-1) | _,9=>iV (l5.getD (j5-1) 0) | _,10=>vX | _,11=>iV j5 | _,12=>ix vX j5 | _,13=>iV (l5.getD j5 0) | _,14=>ix vX j5 | _,16=>ix vX (j5-1) | _,_=>undef) (fun k_ (_:Nat→Bool) (g:Unit) w=>match k_,g with | 0,_=>St w0 w (oB vX) [rI vP zs] [sl 3 1 vX N (ints l5)] | 1,_=>St w0 w (oB vX) [rI vP zs] [sl 3 1 vX N (ints (l5.set j5 (l5.getD (j5-1) 0)))] | _,_=>St w0 w (oB vX) [rI vP zs] [sl 3 1 vX N (ints ((l5.set j5 (l5.getD (j5-1) 0)).set (j5-1) (l5.getD j5 0)))]) aV (by kernel_rfl) (by kernel_rfl) (by kernel_rfl) hf hf1 hS.drew ?_ ?_ trivial ?_
                  · clear hf hf1 hS
                    refine ⟨?_,?_,?_,?_,?_,?_,?_,?_,?_,?_,?_,?_,?_,?_,?_,?_,trivial⟩
                    · exact qq fun _=>rfl
                    · exact qq fun _=>rfl
                    · exact qq fun _=>rfl
                    · exact qq fun _=>rfl
                    · exact fun _ _ _ _ _ _ _ hD _ hf=>qv hf rfl (aA.cZ rfl rfl (by omega)) hD
                    · exact qq fun _=>rfl
                    · exact qq fun _=>rfl
                    · exact fun _ _ _ _ _ _ _ hD _ hf=>qv hf rfl (aA.cZ rfl rfl (by omega)) hD
                    · exact s1 (fun _ _ _ _ hD _ hf=>qv hf rfl (aA.ixV (j:=(j5-1)) (m:=(j5-1)) aB aD rfl rfl (hD.slr (j:=0) rfl) (by omega) (by omega) (Nat.mul_one _)) hD) rfl
                    · exact s1 (fun _ _ _ _ hD _ hf=>qv hf rfl (aA.ld1 aH rfl (hD.slr (j:=0) rfl) (aI (by omega))) hD) rfl
                    · exact qq fun _=>rfl
                    · exact qq fun _=>rfl
                    · exact s1 (fun _ _ _ _ hD _ hf=>qv hf rfl (aA.ixV (j:=j5) (m:=j5) aB aD rfl rfl (hD.slr (j:=0) rfl) rfl (by omega) (Nat.mul_one _)) hD) rfl
                    · exact s1 (fun _ _ _ _ hD _ hf=>qv hf rfl (aA.ld1 aH rfl (hD.slr (j:=0) rfl) (aI (by omega))) hD) rfl
                    · exact s1 (fun _ _ _ _ hD _ hf=>qv hf rfl (aA.ixV (j:=j5) (m:=j5) aB aD rfl rfl (hD.slr (j:=0) rfl) rfl (by omega) (Nat.mul_one _)) hD) rfl
                    · exact s1 (fun _ _ _ _ hD _ hf=>qv hf rfl (aA.ixV (j:=(j5-1)) (m:=(j5-1)) aB aD rfl rfl (hD.slr (j:=0) rfl) (by omega) (by omega) (Nat.mul_one _)) hD) rfl
                  · clear hf hf1 hS
                    refine ⟨?_,?_,trivial⟩
                    · intro s_ g w _ hD a hf
                      have hS:=hD; clear hD; refine O.bF (j:=0) (m:=j5) (xs':=ints (l5.set j5 (l5.getD (j5-1) 0))) (M':=[sl 3 1 vX N (ints (l5.set j5 (l5.getD (j5-1) 0)))]) hf hS rfl rfl rfl aD rfl rfl rfl (by simp only [ai,List.length_set]; omega) ints_set rfl rfl ?_; intro w hS; exact nU hf rfl (fun _=>rfl) hS
                    · intro s_ g w _ hD a hf
                      have hS:=hD; clear hD; refine O.bF (j:=0) (m:=(j5-1)) (xs':=ints ((l5.set j5 (l5.getD (j5-1) 0)).set (j5-1) (l5.getD j5 0))) (M':=[sl 3 1 vX N (ints ((l5.set j5 (l5.getD (j5-1) 0)).set (j5-1) (l5.getD j5 0)))]) hf hS rfl rfl rfl aD rfl rfl rfl (by simp only [ai,List.length_set]; omega) ints_set rfl rfl ?_; intro w hS; exact nU hf rfl (fun _=>rfl) hS
                  clear hf hf1 hS; intro s_ g a w _ hf hD; have hS:=hD; clear hD; replace hf:Fr a 141 [] ((125,vX)::(126,iV j5)::(127,vX)::(128,iV j5)::(129,iV ((j5:Int)-1))::(130,vX)::(131,iV j5)::(132,iV ((j5:Int)-1))::(133,ix vX (j5-1))::(134,iV (l5.getD (j5-1) 0))::(135,vX)::(136,iV j5)::(137,ix vX j5)::(138,iV (l5.getD j5 0))::(139,ix vX j5)::(140,ix vX (j5-1))::LZ4295):=hf; have hsw0:=hsw; clear hsw; obtain ⟨l6,hsw⟩:∃ q,Det.swL l5 j5 (j5-1)=q:=⟨_,rfl⟩; have hl6:l6.length=N:=by rw [← hsw,Det.dW]; exact hl5
                  have hr6:Det.InR zs.length l6:=by rw [← hsw]; exact hr5.sw (by omega) (by omega)
                  replace hS:=hS.eqM (N:=[sl 3 1 vX N (ints l6)]) (by rw [← hsw]; rfl); refine aG<|aF<|?_
                  refine R3 rfl<|mv hf rfl<|fun a hf=>ov hf rfl (aA.ak rfl rfl (by omega)) fun a hf=>mv hf rfl fun a hf=>?_; refine O.nil ?_; refine aS ⟨(j5+1,l6),⟨hf.to ⟨rfl,rfl,rfl,rfl,rfl,rfl,(by first | rfl | exact vI (by omega)),trivial⟩,?_,?_,?_,?_,?_⟩,?_⟩
                  · exact hS.eqM rfl
                  · omega
                  · exact hl6
                  · exact hr6
                  · rw [← hsu,Det.wh (j:=j5) (l:=l5) (by omega) (by omega),hsw]
                  · dsimp only; omega
              · refine W.exit ?_
                refine aC<|aC<|bD<|aG<|aF<|?_
                refine R3 rfl<|mv hf rfl<|fun a hf=>ov hf rfl (aA.ak rfl rfl (by omega)) fun a hf=>mv hf rfl fun a hf=>?_; refine O.nil ?_; refine aS ⟨(k+1,i2,l5),⟨hf.to ⟨rfl,rfl,rfl,rfl,(by first | rfl | exact vI (by omega)),(by first | rfl | exact vI (by omega)),trivial⟩,?_,?_,?_,?_,?_,?_⟩,?_⟩
                · exact hS.eqM rfl
                · omega
                · omega
                · exact hl5
                · exact hr5
                · rw [← he]
                  refine (Det.iN (s:=5-k) (l3:=l2) (by omega) hss2 (by omega) (by omega) hsw ?_ ?_).symm
                  · first | rw [if_pos (by omega),← hsd,Det.l8 (by omega)] | rw [if_neg (by omega)]
                  · first | rw [if_pos (by omega),← hsu,Det.jm (by omega)] | rw [if_neg (by omega)]
                · dsimp only; omega
            · refine W.skip ?_
              refine aG<|aF<|?_
              refine R3 rfl<|mv hf rfl<|fun a hf=>ov hf rfl (aA.ak rfl rfl (by omega)) fun a hf=>mv hf rfl fun a hf=>?_; refine O.nil ?_; refine aS ⟨(k+1,i2,l2),⟨hf.to ⟨rfl,rfl,rfl,rfl,(by first | rfl | exact vI (by omega)),(by first | rfl | exact vI (by omega)),trivial⟩,?_,?_,?_,?_,?_,?_⟩,?_⟩
              · exact hS.eqM rfl
              · omega
              · omega
              · exact hl2
              · exact hr2
              · rw [← he]
                refine (Det.iN (s:=5-k) (l3:=l2) (by omega) hss2 (by omega) (by omega) hsw ?_ ?_).symm
                · first | rw [if_pos (by omega),← hsd,Det.l8 (by omega)] | rw [if_neg (by omega)]
                · first | rw [if_pos (by omega),← hsu,Det.jm (by omega)] | rw [if_neg (by omega)]
              · dsimp only; omega
  · refine W.exit ?_
    refine aC<|aC<|bD<|aF<|?_; replace hf:Fr a 141 [] []:=hf.to trivial; refine W.seq ?_
    refine R1 rfl<|mv hf rfl<|fun a hf=>?_; refine nk<|W.ret<|bH hf rfl (aO.tmp rfl)<|?_; refine ⟨(l1,false),rfl,(hS.sub (List.Sublist.cons_cons _ (List.nil_sublist _))).noB,?_,hl1,hr1⟩; rw [← he]
    first | exact Det.mh (by omega) (by rw [← hss,Det.om (by omega)]; omega) | exact Det.pi_short (by omega) (hss.symm.trans (Det.om (by omega))) (by omega) (by omega) | (have h5:k=5:=(by omega); subst h5; rfl)
set_option maxHeartbeats 1000000 in
set_option maxRecDepth 4000 in
theorem aD5 (N lo hi p:Nat) (vX vP:Value) (l zs:List Int) (fW fH:Int) (w0:World) (hN:N≤100000) (hl:l.length=N) (hr:Det.InR zs.length l) (hP:aQ (hp w0) 1 vP zs.length (ints zs)) (hsep:∀ b,0<zs.length→vP.ownBlock=some b→¬ vX.ownBlock=some b) (hX:dZ (hp w0) 3 1 vX N (ints l)) (hab:lo<hi) (hb:hi≤N) (hp1:lo≤p) (hp2:p<hi) :
    Ret Tryz.prog 125 #[vX,iV lo,iV hi,iV p,(fB 60 fW fH vP)] w0 (G:=Nat × List Int) (fun g=>iV (g.1:Int)) (fun g w=>St w0 w (oB vX) [] [sl 3 1 vX N (ints g.2)]∧(Go.Sort.partitionEqual (Det.ltP zs) l.toArray lo hi p=(g.1,g.2.toArray))∧g.2.length=N∧Det.InR zs.length g.2):=by
  refine aR (lv:=[vX,iV lo,iV hi,iV p,(fB 60 fW fH vP)]) Tryz.func125 rfl rfl rfl (fun a hf=>?_); replace hf:Fr a 90 [] [(0,vX),(1,iV lo),(2,iV hi),(3,iV p),(4,(fB 60 fW fH vP))]:=hf; have hS:St w0 w0 (oB vX) [rI vP zs] [sl 3 1 vX N (ints l)]:=(St.own hX).lend hP hsep; refine W.seq ?_
  refine R1 rfl<|mv hf rfl<|fun a hf=>?_; refine nk<|W.seq<|?_
  have hf1:Fr a 90 [] []:=hf.to trivial; replace hf:Fr a 90 [] [(0,_),(1,_),(2,_),(3,_),(4,_),(10,_)]:=hf.q rfl
  let LZ4555:List (Nat × Value):=[(0,vX),(1,iV lo),(2,iV hi),(3,iV p),(4,(fB 60 fW fH vP)),(10,iV 0)]
  refine W.dn (γ:=Unit) (L0:=LZ4555) (L1:=[]) () [13,15] [] [0,1,2,3,4,5,6,7,8,9,10,11,12,14] (fun i_=>match i_ with | 6=>[4,5] | 7=>[6] | 10=>[8,9] | 11=>[10] | 12=>[0,1] | 13=>[7,12] | 14=>[2,3] | 15=>[11,14] | _=>[]) (fun _=>[]) (fun i_=>match i_ with | 13=>[14,15] | _=>[]) (fun _=>[]) (fun i_=>match i_ with | 14=>1 | 15=>1 | _=>0) (fun i_=>match i_ with | 2=>1 | 3=>1 | 13=>1 | 14=>1 | 15=>2 | _=>0) (fun (g:Unit) j_=>match g,j_ with | _,0=>vX | _,1=>iV lo | _,2=>vX | _,3=>iV p | _,4=>vX | _,5=>iV p | _,6=>ix vX p | _,7=>iV (l.getD p 0) | _,8=>vX | _,9=>iV lo | _,10=>ix vX lo | _,11=>iV (l.getD lo 0) | _,12=>ix vX lo | _,14=>ix vX p | _,_=>undef) (fun k_ (_:Nat→Bool) (g:Unit) w=>match k_,g with | 0,_=>St w0 w (oB vX) [rI vP zs] [sl 3 1 vX N (ints l)] | 1,_=>St w0 w (oB vX) [rI vP zs] [sl 3 1 vX N (ints (l.set lo (l.getD p 0)))] | _,_=>St w0 w (oB vX) [rI vP zs] [sl 3 1 vX N (ints ((l.set lo (l.getD p 0)).set p (l.getD lo 0)))]) aV (by kernel_rfl) (by kernel_rfl) (by kernel_rfl) hf hf1 hS.drew ?_ ?_ trivial ?_
  · clear hf hf1 hS
    refine ⟨?_,?_,?_,?_,?_,?_,?_,?_,?_,?_,?_,?_,?_,?_,trivial⟩
    · exact qq fun _=>rfl
    · exact qq fun _=>rfl
    · exact qq fun _=>rfl
    · exact qq fun _=>rfl
    · exact qq fun _=>rfl
    · exact qq fun _=>rfl
    · exact s1 (fun _ _ _ _ hD _ hf=>qv hf rfl (aA.ixV (j:=p) (m:=p) aB aD rfl rfl (hD.slr (j:=0) rfl) rfl (by omega) (Nat.mul_one _)) hD) rfl
    · exact s1 (fun _ _ _ _ hD _ hf=>qv hf rfl (aA.ld1 aH rfl (hD.slr (j:=0) rfl) (aI (by omega))) hD) rfl
    · exact qq fun _=>rfl
    · exact qq fun _=>rfl
    · exact s1 (fun _ _ _ _ hD _ hf=>qv hf rfl (aA.ixV (j:=lo) (m:=lo) aB aD rfl rfl (hD.slr (j:=0) rfl) rfl (by omega) (Nat.mul_one _)) hD) rfl
    · exact s1 (fun _ _ _ _ hD _ hf=>qv hf rfl (aA.ld1 aH rfl (hD.slr (j:=0) rfl) (aI (by omega))) hD) rfl
    · exact s1 (fun _ _ _ _ hD _ hf=>qv hf rfl (aA.ixV (j:=lo) (m:=lo) aB aD rfl rfl (hD.slr (j:=0) rfl) rfl (by omega) (Nat.mul_one _)) hD) rfl
    · exact s1 (fun _ _ _ _ hD _ hf=>qv hf rfl (aA.ixV (j:=p) (m:=p) aB aD rfl rfl (hD.slr (j:=0) rfl) rfl (by omega) (Nat.mul_one _)) hD) rfl
  · clear hf hf1 hS
    refine ⟨?_,?_,trivial⟩
    · intro s_ g w _ hD a hf
      have hS:=hD; clear hD; refine O.bF (j:=0) (m:=lo) (xs':=ints (l.set lo (l.getD p 0))) (M':=[sl 3 1 vX N (ints (l.set lo (l.getD p 0)))]) hf hS rfl rfl rfl aD rfl rfl rfl (by simp only [ai,List.length_set]; omega) ints_set rfl rfl ?_; intro w hS; exact nU hf rfl (fun _=>rfl) hS
    · intro s_ g w _ hD a hf
      have hS:=hD; clear hD; refine O.bF (j:=0) (m:=p) (xs':=ints ((l.set lo (l.getD p 0)).set p (l.getD lo 0))) (M':=[sl 3 1 vX N (ints ((l.set lo (l.getD p 0)).set p (l.getD lo 0)))]) hf hS rfl rfl rfl aD rfl rfl rfl (by simp only [ai,List.length_set]; omega) ints_set rfl rfl ?_; intro w hS; exact nU hf rfl (fun _=>rfl) hS
  clear hf hf1 hS; intro s_ g a w _ hf hD; have hS:=hD; clear hD; replace hf:Fr a 90 [] ((13,vX)::(14,iV lo)::(15,vX)::(16,iV p)::(17,vX)::(18,iV p)::(19,ix vX p)::(20,iV (l.getD p 0))::(21,vX)::(22,iV lo)::(23,ix vX lo)::(24,iV (l.getD lo 0))::(25,ix vX lo)::(26,ix vX p)::LZ4555):=hf; obtain ⟨l1,hsw⟩:∃ q,Det.swL l lo p=q:=⟨_,rfl⟩; have hl1:l1.length=N:=by rw [← hsw,Det.dW]; exact hl
  have hr1:Det.InR zs.length l1:=by rw [← hsw]; exact hr.sw (by omega) (by omega)
  replace hS:=hS.eqM (N:=[sl 3 1 vX N (ints l1)]) (by rw [← hsw]; rfl); refine aF<|W.seq<|?_
  refine R6 rfl<|mv hf rfl<|fun a hf=>ov hf rfl (aA.ak rfl rfl (by omega)) fun a hf=>mv hf rfl fun a hf=>ov hf rfl (aA.cZ rfl rfl (by omega)) fun a hf=>mv hf rfl fun a hf=>mv hf rfl fun a hf=>?_; refine nk ?_; replace hf:Fr a 90 [] [(0,_),(1,_),(4,_),(10,_),(11,_),(12,_)]:=hf.q rfl; refine W.seq<|W.block<|?_
  refine W.loop (G:=(Nat) × (Nat) × (List Int)) (fun g a w=>match g with | (i,j,l2)=>Fr a 90 [] [(0,vX),(1,iV lo),(4,(fB 60 fW fH vP)),(10,iV 0),(11,iV i),(12,iV j)]∧St w0 w (oB vX) [rI vP zs] [sl 3 1 vX N (ints l2)]∧(lo+1≤i∧i≤j+2∧j<hi)∧(l2.length=N)∧(Det.InR zs.length l2)∧(Go.Sort.partEqLoop (Det.ltP zs) lo i j l2.toArray=Go.Sort.partitionEqual (Det.ltP zs) l.toArray lo hi p)) (fun g=>match g with | (i,j,l2)=>j+1-i) ((lo+1),(hi-1),l1) ?_ ?_
  · refine ⟨hf.to ⟨rfl,rfl,rfl,rfl,(by first | rfl | exact vI (by omega)),(by first | rfl | exact vI (by omega)),trivial⟩,hS,?_,?_,?_,?_⟩
    · omega
    · exact hl1
    · exact hr1
    · unfold Go.Sort.partitionEqual; rw [Det.fK,hsw]
  clear hf hS a; rintro ⟨i,j,l2⟩ a w ⟨hf,hS,h0,hl2,hr2,he⟩; refine W.block<|W.seq<|W.block<|?_
  refine W.loop (G:=(Nat)) (fun g a w=>match g with | i2=>Fr a 90 [] [(0,vX),(1,iV lo),(4,(fB 60 fW fH vP)),(10,iV 0),(11,iV i2),(12,iV j)]∧St w0 w (oB vX) [rI vP zs] [sl 3 1 vX N (ints l2)]∧(i≤i2∧i2≤j+2)∧(Go.Sort.scanUp (fun x=>!Det.ltP zs (l2.toArray)[lo]! x) l2.toArray j i2=Go.Sort.scanUp (fun x=>!Det.ltP zs (l2.toArray)[lo]! x) l2.toArray j i)) (fun g=>match g with | i2=>j+2-i2) i ?_ ?_
  · refine ⟨hf.to ⟨rfl,rfl,rfl,rfl,(by first | rfl | exact vI (by omega)),rfl,trivial⟩,hS,?_,?_⟩
    · omega
    · rfl
  clear hf hS a; rintro i2 a w ⟨hf,hS,u1i2,hsu⟩; refine W.seq<|W.seq<|?_
  refine W.dY (fun w=>St w0 w (oB vX) [rI vP zs] [sl 3 1 vX N (ints l2)]) aV rfl (by kernel_rfl) rfl hS.drew ?_; clear hS; refine q0 hf rfl rfl fun a hf=>q0 hf rfl rfl fun a hf=>OQ.val (v:=.bool (decide ((i2:Int)≤((j:Int):Int)))) hf rfl (fun w hS=>aA.leq rfl rfl) fun a hf=>q0 hf rfl rfl fun a hf=>?_
  refine OQ.ji (K':=fun a=>Fr a 90 [] [(0,vX),(1,iV lo),(4,(fB 60 fW fH vP)),(10,iV 0),(11,iV i2),(12,iV j),(47,.bool ((decide ((i2:Int)≤((j:Int):Int)))&&(!(decide ((Det.cfP zs (l2.getD lo 0) (l2.getD i2 0))<(0:Int))))))]) 13 ?_ ?_
  · rcases Bool.eq_false_or_eq_true (decide ((i2:Int)≤((j:Int):Int))) with hb1 | hb1
    · have hb1p:=of_decide_eq_true hb1
      refine gm hf rfl rfl hb1 rfl rfl fun a hf=>gm hf rfl rfl hb1 rfl rfl fun a hf=>gm hf rfl rfl hb1 rfl rfl fun a hf=>OQ.gval (v:=ix vX lo) hf rfl rfl hb1 rfl (fun w hS=>aA.ixV (j:=lo) (m:=lo) aB aD rfl rfl (hS.slr (j:=0) rfl) rfl (by omega) (Nat.mul_one _)) fun a hf=>OQ.gval (v:=iV (l2.getD lo 0)) hf rfl rfl hb1 rfl (fun w hS=>aA.ld1 aH rfl (hS.slr (j:=0) rfl) (aI (by omega))) fun a hf=>gm hf rfl rfl hb1 rfl rfl fun a hf=>gm hf rfl rfl hb1 rfl rfl fun a hf=>OQ.gval (v:=ix vX i2) hf rfl rfl hb1 rfl (fun w hS=>aA.ixV (j:=i2) (m:=i2) aB aD rfl rfl (hS.slr (j:=0) rfl) rfl (by omega) (Nat.mul_one _)) fun a hf=>OQ.gval (v:=iV (l2.getD i2 0)) hf rfl rfl hb1 rfl (fun w hS=>aA.ld1 aH rfl (hS.slr (j:=0) rfl) (aI (by omega))) fun a hf=>OQ.gV (v:=iV (Det.cfP zs (l2.getD lo 0) (l2.getD i2 0))) hf rfl rfl hb1 rfl (fun w hS=>dS.call (av:=#[(fG fW fH vP),iV (l2.getD lo 0),iV (l2.getD i2 0)]) dX rfl rfl rfl) (fun w hS=>au fW fH (l2.getD lo 0) (l2.getD i2 0) vP zs _ (hr2.at (by omega)) (hr2.at (by omega)) (hS.aL (j:=0) rfl)) fun a hf=>OQ.gval (v:=.bool (decide ((Det.cfP zs (l2.getD lo 0) (l2.getD i2 0))<(0:Int)))) hf rfl rfl hb1 rfl (fun w hS=>aA.lss rfl rfl) fun a hf=>OQ.gval (v:=.bool (!(decide ((Det.cfP zs (l2.getD lo 0) (l2.getD i2 0))<(0:Int))))) hf rfl rfl hb1 rfl (fun w hS=>aA.not rfl) fun a hf=>?_; refine OQ.val (v:=.bool ((decide ((i2:Int)≤((j:Int):Int)))&&(!(decide ((Det.cfP zs (l2.getD lo 0) (l2.getD i2 0))<(0:Int)))))) hf rfl (fun w hS=>aA.pick rfl rfl rfl (by rw [hb1]; rfl)) fun a hf=>?_; exact OQ.nil (hf.q rfl)
    · have hb1p:=of_decide_eq_false hb1
      refine OQ.aJ hf rfl rfl hb1 rfl fun a hf=>OQ.aJ hf rfl rfl hb1 rfl fun a hf=>OQ.aJ hf rfl rfl hb1 rfl fun a hf=>OQ.aJ hf rfl rfl hb1 rfl fun a hf=>OQ.aJ hf rfl rfl hb1 rfl fun a hf=>OQ.aJ hf rfl rfl hb1 rfl fun a hf=>OQ.aJ hf rfl rfl hb1 rfl fun a hf=>OQ.aJ hf rfl rfl hb1 rfl fun a hf=>OQ.aJ hf rfl rfl hb1 rfl fun a hf=>OQ.aJ hf rfl rfl hb1 rfl fun a hf=>OQ.aJ hf rfl rfl hb1 rfl fun a hf=>OQ.aJ hf rfl rfl hb1 rfl fun a hf=>?_; refine OQ.val (v:=.bool ((decide ((i2:Int)≤((j:Int):Int)))&&(!(decide ((Det.cfP zs (l2.getD lo 0) (l2.getD i2 0))<(0:Int)))))) hf rfl (fun w hS=>aA.pick rfl rfl rfl (by rw [hb1]; rfl)) fun a hf=>?_; exact OQ.nil (hf.q rfl)
  clear hf a; intro a hf; refine OQ.nil ?_; intro w hS; refine aF ?_; refine W.if_ hf rfl (fun hs1=>?_) (fun hs1=>?_)
  · have hs1b:=hs1
    try simp only [bsm] at hs1
    refine W.skip<|aF<|W.block<|?_
    refine R3 rfl<|mv hf rfl<|fun a hf=>ov hf rfl (aA.ak rfl rfl (by omega)) fun a hf=>mv hf rfl fun a hf=>?_; refine O.nil<|aG<|?_; refine aS ⟨(i2+1),⟨hf.to ⟨rfl,rfl,rfl,rfl,(by first | rfl | exact vI (by omega)),rfl,trivial⟩,?_,?_,?_⟩,?_⟩
    · exact hS.eqM rfl
    · omega
    · rw [← hsu,Det.aBb (i:=i2) (by omega) (by simp only [Det.bI,Det.ltP,Bool.not_eq_true',Bool.not_eq_false',decide_eq_true_eq,decide_eq_false_iff_not]; omega)]
    · dsimp only; omega
  · have hs1b:=hs1
    try simp only [bsm] at hs1
    refine W.exit<|aC<|aC<|bD<|aF<|W.seq<|W.block<|?_
    refine W.loop (G:=(Nat)) (fun g a w=>match g with | j2=>Fr a 90 [] [(0,vX),(1,iV lo),(4,(fB 60 fW fH vP)),(10,iV 0),(11,iV i2),(12,iV j2)]∧St w0 w (oB vX) [rI vP zs] [sl 3 1 vX N (ints l2)]∧(j2≤j∧i2≤j2+2)∧(Go.Sort.scanDown (fun x=>Det.ltP zs (l2.toArray)[lo]! x) l2.toArray i2 j2=Go.Sort.scanDown (fun x=>Det.ltP zs (l2.toArray)[lo]! x) l2.toArray i2 j)) (fun g=>match g with | j2=>j2) j ?_ ?_
    · refine ⟨hf.to ⟨rfl,rfl,rfl,rfl,rfl,(by first | rfl | exact vI (by omega)),trivial⟩,hS,?_,?_⟩
      · omega
      · rfl
    clear hf hS a; rintro j2 a w ⟨hf,hS,d1j2,hsn⟩; refine W.seq<|W.seq<|?_
    refine W.dY (fun w=>St w0 w (oB vX) [rI vP zs] [sl 3 1 vX N (ints l2)]) aV rfl (by kernel_rfl) rfl hS.drew ?_; clear hS; refine q0 hf rfl rfl fun a hf=>q0 hf rfl rfl fun a hf=>OQ.val (v:=.bool (decide ((i2:Int)≤((j2:Int):Int)))) hf rfl (fun w hS=>aA.leq rfl rfl) fun a hf=>q0 hf rfl rfl fun a hf=>?_
    refine OQ.ji (K':=fun a=>Fr a 90 [] [(0,vX),(1,iV lo),(4,(fB 60 fW fH vP)),(10,iV 0),(11,iV i2),(12,iV j2),(65,.bool ((decide ((i2:Int)≤((j2:Int):Int)))&&(decide ((Det.cfP zs (l2.getD lo 0) (l2.getD j2 0))<(0:Int)))))]) 12 ?_ ?_
    · rcases Bool.eq_false_or_eq_true (decide ((i2:Int)≤((j2:Int):Int))) with hb3 | hb3
      · have hb3p:=of_decide_eq_true hb3
        refine gm hf rfl rfl hb3 rfl rfl fun a hf=>gm hf rfl rfl hb3 rfl rfl fun a hf=>gm hf rfl rfl hb3 rfl rfl fun a hf=>OQ.gval (v:=ix vX lo) hf rfl rfl hb3 rfl (fun w hS=>aA.ixV (j:=lo) (m:=lo) aB aD rfl rfl (hS.slr (j:=0) rfl) rfl (by omega) (Nat.mul_one _)) fun a hf=>OQ.gval (v:=iV (l2.getD lo 0)) hf rfl rfl hb3 rfl (fun w hS=>aA.ld1 aH rfl (hS.slr (j:=0) rfl) (aI (by omega))) fun a hf=>gm hf rfl rfl hb3 rfl rfl fun a hf=>gm hf rfl rfl hb3 rfl rfl fun a hf=>OQ.gval (v:=ix vX j2) hf rfl rfl hb3 rfl (fun w hS=>aA.ixV (j:=j2) (m:=j2) aB aD rfl rfl (hS.slr (j:=0) rfl) rfl (by omega) (Nat.mul_one _)) fun a hf=>OQ.gval (v:=iV (l2.getD j2 0)) hf rfl rfl hb3 rfl (fun w hS=>aA.ld1 aH rfl (hS.slr (j:=0) rfl) (aI (by omega))) fun a hf=>OQ.gV (v:=iV (Det.cfP zs (l2.getD lo 0) (l2.getD j2 0))) hf rfl rfl hb3 rfl (fun w hS=>dS.call (av:=#[(fG fW fH vP),iV (l2.getD lo 0),iV (l2.getD j2 0)]) dX rfl rfl rfl) (fun w hS=>au fW fH (l2.getD lo 0) (l2.getD j2 0) vP zs _ (hr2.at (by omega)) (hr2.at (by omega)) (hS.aL (j:=0) rfl)) fun a hf=>OQ.gval (v:=.bool (decide ((Det.cfP zs (l2.getD lo 0) (l2.getD j2 0))<(0:Int)))) hf rfl rfl hb3 rfl (fun w hS=>aA.lss rfl rfl) fun a hf=>?_; refine OQ.val (v:=.bool ((decide ((i2:Int)≤((j2:Int):Int)))&&(decide ((Det.cfP zs (l2.getD lo 0) (l2.getD j2 0))<(0:Int))))) hf rfl (fun w hS=>aA.pick rfl rfl rfl (by rw [hb3]; rfl)) fun a hf=>?_; exact OQ.nil (hf.q rfl)
      · have hb3p:=of_decide_eq_false hb3
        refine OQ.aJ hf rfl rfl hb3 rfl fun a hf=>OQ.aJ hf rfl rfl hb3 rfl fun a hf=>OQ.aJ hf rfl rfl hb3 rfl fun a hf=>OQ.aJ hf rfl rfl hb3 rfl fun a hf=>OQ.aJ hf rfl rfl hb3 rfl fun a hf=>OQ.aJ hf rfl rfl hb3 rfl fun a hf=>OQ.aJ hf rfl rfl hb3 rfl fun a hf=>OQ.aJ hf rfl rfl hb3 rfl fun a hf=>OQ.aJ hf rfl rfl hb3 rfl fun a hf=>OQ.aJ hf rfl rfl hb3 rfl fun a hf=>OQ.aJ hf rfl rfl hb3 rfl fun a hf=>?_; refine OQ.val (v:=.bool ((decide ((i2:Int)≤((j2:Int):Int)))&&(decide ((Det.cfP zs (l2.getD lo 0) (l2.getD j2 0))<(0:Int))))) hf rfl (fun w hS=>aA.pick rfl rfl rfl (by rw [hb3]; rfl)) fun a hf=>?_; exact OQ.nil (hf.q rfl)
    clear hf a; intro a hf; refine OQ.nil ?_; intro w hS; refine aF ?_; refine W.if_ hf rfl (fun hs2=>?_) (fun hs2=>?_)
    · have hs2b:=hs2
      try simp only [bsm] at hs2
      refine W.skip<|aF<|W.block<|?_
      refine R3 rfl<|mv hf rfl<|fun a hf=>ov hf rfl (aA.cZ rfl rfl (by omega)) fun a hf=>mv hf rfl fun a hf=>?_; refine O.nil<|aG<|?_; refine aS ⟨(j2-1),⟨hf.to ⟨rfl,rfl,rfl,rfl,rfl,(by first | rfl | exact vI (by omega)),trivial⟩,?_,?_,?_⟩,?_⟩
      · exact hS.eqM rfl
      · omega
      · rw [← hsn,Det.aBI (j:=j2) (by omega) (by omega) (by simp only [Det.bI,Det.ltP,Bool.not_eq_true',Bool.not_eq_false',decide_eq_true_eq,decide_eq_false_iff_not]; omega)]
      · dsimp only; omega
    · have hs2b:=hs2
      try simp only [bsm] at hs2
      refine W.exit<|aC<|aC<|bD<|aF<|W.seq<|W.seq<|?_
      refine R3 rfl<|mv hf rfl<|fun a hf=>mv hf rfl fun a hf=>ov (v:=.bool (decide ((i2:Int)>((j2:Int):Int)))) hf rfl (aA.gtr rfl rfl) fun a hf=>?_; refine nk ?_; refine W.bJ hf rfl (fun hij=>?_) (fun hij=>?_)
      · refine W.exit ?_
        refine aC<|fT rfl<|aC<|bD<|aF<|W.seq<|?_
        refine R2 rfl<|mv hf rfl<|fun a hf=>mv hf rfl fun a hf=>?_; refine nk<|W.ret<|bH hf rfl (aO.tmp rfl)<|?_; refine ⟨(i2,l2),rfl,(hS.sub (List.Sublist.cons_cons _ (List.nil_sublist _))).noB,?_,hl2,hr2⟩; rw [← he]; exact Det.aEU (hsu.symm.trans (Det.rJ (by simp only [Det.bI,Det.ltP,Bool.not_eq_true',Bool.not_eq_false',decide_eq_true_eq,decide_eq_false_iff_not]; omega))) (hsn.symm.trans (Det.qj (by simp only [Det.bI,Det.ltP,Bool.not_eq_true',Bool.not_eq_false',decide_eq_true_eq,decide_eq_false_iff_not]; omega))) (by omega)
      · refine W.skip ?_
        refine aF<|W.seq<|?_; have hsw0:=hsw; clear hsw
        have hf1:Fr a 90 [] []:=hf.to trivial; replace hf:Fr a 90 [] [(0,_),(1,_),(4,_),(10,_),(11,_),(12,_)]:=hf.q rfl
        let LZ4926:List (Nat × Value):=[(0,vX),(1,iV lo),(4,(fB 60 fW fH vP)),(10,iV 0),(11,iV i2),(12,iV j2)]
        refine W.dn (γ:=Unit) (L0:=LZ4926) (L1:=[]) () [13,15] [] [0,1,2,3,4,5,6,7,8,9,10,11,12,14] (fun i_=>match i_ with | 6=>[4,5] | 7=>[6] | 10=>[8,9] | 11=>[10] | 12=>[0,1] | 13=>[7,12] | 14=>[2,3] | 15=>[11,14] | _=>[]) (fun _=>[]) (fun i_=>match i_ with | 13=>[14,15] | _=>[]) (fun _=>[]) (fun i_=>match i_ with | 14=>1 | 15=>1 | _=>0) (fun i_=>match i_ with | 2=>1 | 3=>1 | 13=>1 | 14=>1 | 15=>2 | _=>0) (fun (g:Unit) j_=>match g,j_ with | _,0=>vX | _,1=>iV i2 | _,2=>vX | _,3=>iV j2 | _,4=>vX | _,5=>iV j2 | _,6=>ix vX j2 | _,7=>iV (l2.getD j2 0) | _,8=>vX | _,9=>iV i2 | _,10=>ix vX i2 | _,11=>iV (l2.getD i2 0) | _,12=>ix vX i2 | _,14=>ix vX j2 | _,_=>undef) (fun k_ (_:Nat→Bool) (g:Unit) w=>match k_,g with | 0,_=>St w0 w (oB vX) [rI vP zs] [sl 3 1 vX N (ints l2)] | 1,_=>St w0 w (oB vX) [rI vP zs] [sl 3 1 vX N (ints (l2.set i2 (l2.getD j2 0)))] | _,_=>St w0 w (oB vX) [rI vP zs] [sl 3 1 vX N (ints ((l2.set i2 (l2.getD j2 0)).set j2 (l2.getD i2 0)))]) aV (by kernel_rfl) (by kernel_rfl) (by kernel_rfl) hf hf1 hS.drew ?_ ?_ trivial ?_
        · clear hf hf1 hS
          refine ⟨?_,?_,?_,?_,?_,?_,?_,?_,?_,?_,?_,?_,?_,?_,trivial⟩
          · exact qq fun _=>rfl
          · exact qq fun _=>rfl
          · exact qq fun _=>rfl
          · exact qq fun _=>rfl
          · exact qq fun _=>rfl
          · exact qq fun _=>rfl
          · exact s1 (fun _ _ _ _ hD _ hf=>qv hf rfl (aA.ixV (j:=j2) (m:=j2) aB aD rfl rfl (hD.slr (j:=0) rfl) rfl (by omega) (Nat.mul_one _)) hD) rfl
          · exact s1 (fun _ _ _ _ hD _ hf=>qv hf rfl (aA.ld1 aH rfl (hD.slr (j:=0) rfl) (aI (by omega))) hD) rfl
          · exact qq fun _=>rfl
          · exact qq fun _=>rfl
          · exact s1 (fun _ _ _ _ hD _ hf=>qv hf rfl (aA.ixV (j:=i2) (m:=i2) aB aD rfl rfl (hD.slr (j:=0) rfl) rfl (by omega) (Nat.mul_one _)) hD) rfl
          · exact s1 (fun _ _ _ _ hD _ hf=>qv hf rfl (aA.ld1 aH rfl (hD.slr (j:=0) rfl) (aI (by omega))) hD) rfl
          · exact s1 (fun _ _ _ _ hD _ hf=>qv hf rfl (aA.ixV (j:=i2) (m:=i2) aB aD rfl rfl (hD.slr (j:=0) rfl) rfl (by omega) (Nat.mul_one _)) hD) rfl
          · exact s1 (fun _ _ _ _ hD _ hf=>qv hf rfl (aA.ixV (j:=j2) (m:=j2) aB aD rfl rfl (hD.slr (j:=0) rfl) rfl (by omega) (Nat.mul_one _)) hD) rfl
        · clear hf hf1 hS
          refine ⟨?_,?_,trivial⟩
          · intro s_ g w _ hD a hf
            have hS:=hD; clear hD; refine O.bF (j:=0) (m:=i2) (xs':=ints (l2.set i2 (l2.getD j2 0))) (M':=[sl 3 1 vX N (ints (l2.set i2 (l2.getD j2 0)))]) hf hS rfl rfl rfl aD rfl rfl rfl (by simp only [ai,List.length_set]; omega) ints_set rfl rfl ?_; intro w hS; exact nU hf rfl (fun _=>rfl) hS
          · intro s_ g w _ hD a hf
            have hS:=hD; clear hD; refine O.bF (j:=0) (m:=j2) (xs':=ints ((l2.set i2 (l2.getD j2 0)).set j2 (l2.getD i2 0))) (M':=[sl 3 1 vX N (ints ((l2.set i2 (l2.getD j2 0)).set j2 (l2.getD i2 0)))]) hf hS rfl rfl rfl aD rfl rfl rfl (by simp only [ai,List.length_set]; omega) ints_set rfl rfl ?_; intro w hS; exact nU hf rfl (fun _=>rfl) hS
        clear hf hf1 hS; intro s_ g a w _ hf hD; have hS:=hD; clear hD; replace hf:Fr a 90 [] ((71,vX)::(72,iV i2)::(73,vX)::(74,iV j2)::(75,vX)::(76,iV j2)::(77,ix vX j2)::(78,iV (l2.getD j2 0))::(79,vX)::(80,iV i2)::(81,ix vX i2)::(82,iV (l2.getD i2 0))::(83,ix vX i2)::(84,ix vX j2)::LZ4926):=hf; obtain ⟨l3,hsw⟩:∃ q,Det.swL l2 i2 j2=q:=⟨_,rfl⟩; have hl3:l3.length=N:=by rw [← hsw,Det.dW]; exact hl2
        have hr3:Det.InR zs.length l3:=by rw [← hsw]; exact hr2.sw (by omega) (by omega)
        replace hS:=hS.eqM (N:=[sl 3 1 vX N (ints l3)]) (by rw [← hsw]; rfl); refine aF<|W.seq<|?_
        refine R3 rfl<|mv hf rfl<|fun a hf=>ov hf rfl (aA.ak rfl rfl (by omega)) fun a hf=>mv hf rfl fun a hf=>?_; refine nk ?_
        refine R3 rfl<|mv hf rfl<|fun a hf=>ov hf rfl (aA.cZ rfl rfl (by omega)) fun a hf=>mv hf rfl fun a hf=>?_; refine O.nil<|aG<|?_; refine aS ⟨(i2+1,j2-1,l3),⟨hf.to ⟨rfl,rfl,rfl,rfl,(by first | rfl | exact vI (by omega)),(by first | rfl | exact vI (by omega)),trivial⟩,?_,?_,?_,?_,?_⟩,?_⟩
        · exact hS.eqM rfl
        · omega
        · exact hl3
        · exact hr3
        · rw [← he,Det.aEk (hsu.symm.trans (Det.rJ (by simp only [Det.bI,Det.ltP,Bool.not_eq_true',Bool.not_eq_false',decide_eq_true_eq,decide_eq_false_iff_not]; omega))) (hsn.symm.trans (Det.qj (by simp only [Det.bI,Det.ltP,Bool.not_eq_true',Bool.not_eq_false',decide_eq_true_eq,decide_eq_false_iff_not]; omega))) (by omega) (by omega) (by omega) (by omega),hsw]
        · dsimp only; omega
set_option maxHeartbeats 1000000 in
set_option maxRecDepth 4000 in
theorem aDf (N lo hi p:Nat) (vX vP:Value) (l zs:List Int) (fW fH:Int) (w0:World) (hN:N≤100000) (hl:l.length=N) (hr:Det.InR zs.length l) (hP:aQ (hp w0) 1 vP zs.length (ints zs)) (hsep:∀ b,0<zs.length→vP.ownBlock=some b→¬ vX.ownBlock=some b) (hX:dZ (hp w0) 3 1 vX N (ints l)) (hab:lo<hi) (hb:hi≤N) (hp1:lo≤p) (hp2:p<hi) :
    Ret Tryz.prog 126 #[vX,iV lo,iV hi,iV p,(fB 60 fW fH vP)] w0 (G:=Nat × Bool × List Int) (fun g=>.tuple #[iV (g.1:Int),.bool g.2.1]) (fun g w=>St w0 w (oB vX) [] [sl 3 1 vX N (ints g.2.2)]∧(Go.Sort.partition (Det.ltP zs) l.toArray lo hi p=(g.1,g.2.1,g.2.2.toArray))∧g.2.2.length=N∧Det.InR zs.length g.2.2):=by
  refine aR (lv:=[vX,iV lo,iV hi,iV p,(fB 60 fW fH vP)]) Tryz.func126 rfl rfl rfl (fun a hf=>?_); replace hf:Fr a 178 [] [(0,vX),(1,iV lo),(2,iV hi),(3,iV p),(4,(fB 60 fW fH vP))]:=hf; have hS:St w0 w0 (oB vX) [rI vP zs] [sl 3 1 vX N (ints l)]:=(St.own hX).lend hP hsep; refine W.seq ?_
  refine R2 rfl<|mv hf rfl<|fun a hf=>mv hf rfl fun a hf=>?_; refine nk<|W.seq<|?_
  have hf1:Fr a 178 [] []:=hf.to trivial; replace hf:Fr a 178 [] [(0,_),(1,_),(2,_),(3,_),(4,_),(10,_),(11,_)]:=hf.q rfl
  let LZ5112:List (Nat × Value):=[(0,vX),(1,iV lo),(2,iV hi),(3,iV p),(4,(fB 60 fW fH vP)),(10,iV 0),(11,.bool false)]
  refine W.dn (γ:=Unit) (L0:=LZ5112) (L1:=[]) () [13,15] [] [0,1,2,3,4,5,6,7,8,9,10,11,12,14] (fun i_=>match i_ with | 6=>[4,5] | 7=>[6] | 10=>[8,9] | 11=>[10] | 12=>[0,1] | 13=>[7,12] | 14=>[2,3] | 15=>[11,14] | _=>[]) (fun _=>[]) (fun i_=>match i_ with | 13=>[14,15] | _=>[]) (fun _=>[]) (fun i_=>match i_ with | 14=>1 | 15=>1 | _=>0) (fun i_=>match i_ with | 2=>1 | 3=>1 | 13=>1 | 14=>1 | 15=>2 | _=>0) (fun (g:Unit) j_=>match g,j_ with | _,0=>vX | _,1=>iV lo | _,2=>vX | _,3=>iV p | _,4=>vX | _,5=>iV p | _,6=>ix vX p | _,7=>iV (l.getD p 0) | _,8=>vX | _,9=>iV lo | _,10=>ix vX lo | _,11=>iV (l.getD lo 0) | _,12=>ix vX lo | _,14=>ix vX p | _,_=>undef) (fun k_ (_:Nat→Bool) (g:Unit) w=>match k_,g with | 0,_=>St w0 w (oB vX) [rI vP zs] [sl 3 1 vX N (ints l)] | 1,_=>St w0 w (oB vX) [rI vP zs] [sl 3 1 vX N (ints (l.set lo (l.getD p 0)))] | _,_=>St w0 w (oB vX) [rI vP zs] [sl 3 1 vX N (ints ((l.set lo (l.getD p 0)).set p (l.getD lo 0)))]) aV (by kernel_rfl) (by kernel_rfl) (by kernel_rfl) hf hf1 hS.drew ?_ ?_ trivial ?_
  · clear hf hf1 hS
    refine ⟨?_,?_,?_,?_,?_,?_,?_,?_,?_,?_,?_,?_,?_,?_,trivial⟩
    · exact qq fun _=>rfl
    · exact qq fun _=>rfl
    · exact qq fun _=>rfl
    · exact qq fun _=>rfl
    · exact qq fun _=>rfl
    · exact qq fun _=>rfl
    · exact s1 (fun _ _ _ _ hD _ hf=>qv hf rfl (aA.ixV (j:=p) (m:=p) aB aD rfl rfl (hD.slr (j:=0) rfl) rfl (by omega) (Nat.mul_one _)) hD) rfl
    · exact s1 (fun _ _ _ _ hD _ hf=>qv hf rfl (aA.ld1 aH rfl (hD.slr (j:=0) rfl) (aI (by omega))) hD) rfl
    · exact qq fun _=>rfl
    · exact qq fun _=>rfl
    · exact s1 (fun _ _ _ _ hD _ hf=>qv hf rfl (aA.ixV (j:=lo) (m:=lo) aB aD rfl rfl (hD.slr (j:=0) rfl) rfl (by omega) (Nat.mul_one _)) hD) rfl
    · exact s1 (fun _ _ _ _ hD _ hf=>qv hf rfl (aA.ld1 aH rfl (hD.slr (j:=0) rfl) (aI (by omega))) hD) rfl
    · exact s1 (fun _ _ _ _ hD _ hf=>qv hf rfl (aA.ixV (j:=lo) (m:=lo) aB aD rfl rfl (hD.slr (j:=0) rfl) rfl (by omega) (Nat.mul_one _)) hD) rfl
    · exact s1 (fun _ _ _ _ hD _ hf=>qv hf rfl (aA.ixV (j:=p) (m:=p) aB aD rfl rfl (hD.slr (j:=0) rfl) rfl (by omega) (Nat.mul_one _)) hD) rfl
  · clear hf hf1 hS
    refine ⟨?_,?_,trivial⟩
    · intro s_ g w _ hD a hf
      have hS:=hD; clear hD; refine O.bF (j:=0) (m:=lo) (xs':=ints (l.set lo (l.getD p 0))) (M':=[sl 3 1 vX N (ints (l.set lo (l.getD p 0)))]) hf hS rfl rfl rfl aD rfl rfl rfl (by simp only [ai,List.length_set]; omega) ints_set rfl rfl ?_; intro w hS; exact nU hf rfl (fun _=>rfl) hS
    · intro s_ g w _ hD a hf
      have hS:=hD; clear hD; refine O.bF (j:=0) (m:=p) (xs':=ints ((l.set lo (l.getD p 0)).set p (l.getD lo 0))) (M':=[sl 3 1 vX N (ints ((l.set lo (l.getD p 0)).set p (l.getD lo 0)))]) hf hS rfl rfl rfl aD rfl rfl rfl (by simp only [ai,List.length_set]; omega) ints_set rfl rfl ?_; intro w hS; exact nU hf rfl (fun _=>rfl) hS
  clear hf hf1 hS; intro s_ g a w _ hf hD; have hS:=hD; clear hD; replace hf:Fr a 178 [] ((14,vX)::(15,iV lo)::(16,vX)::(17,iV p)::(18,vX)::(19,iV p)::(20,ix vX p)::(21,iV (l.getD p 0))::(22,vX)::(23,iV lo)::(24,ix vX lo)::(25,iV (l.getD lo 0))::(26,ix vX lo)::(27,ix vX p)::LZ5112):=hf; obtain ⟨l1,hsw⟩:∃ q,Det.swL l lo p=q:=⟨_,rfl⟩; have hl1:l1.length=N:=by rw [← hsw,Det.dW]; exact hl
  have hr1:Det.InR zs.length l1:=by rw [← hsw]; exact hr.sw (by omega) (by omega)
  replace hS:=hS.eqM (N:=[sl 3 1 vX N (ints l1)]) (by rw [← hsw]; rfl); have hsw1:=hsw; clear hsw; refine aF<|W.seq<|?_
  refine R6 rfl<|mv hf rfl<|fun a hf=>ov hf rfl (aA.ak rfl rfl (by omega)) fun a hf=>mv hf rfl fun a hf=>ov hf rfl (aA.cZ rfl rfl (by omega)) fun a hf=>mv hf rfl fun a hf=>mv hf rfl fun a hf=>?_; refine nk ?_; replace hf:Fr a 178 [] [(0,_),(1,_),(4,_),(10,_),(11,_),(12,_),(13,_)]:=hf.q rfl; refine W.seq<|W.block<|?_
  refine W.loop (G:=(Nat)) (fun g a w=>match g with | i1=>Fr a 178 [] [(0,vX),(1,iV lo),(4,(fB 60 fW fH vP)),(10,iV 0),(11,.bool false),(12,iV i1),(13,iV ((hi:Int)-1))]∧St w0 w (oB vX) [rI vP zs] [sl 3 1 vX N (ints l1)]∧((lo+1)≤i1∧i1≤(hi-1)+2)∧(Go.Sort.scanUp (fun x=>Det.ltP zs x (l1.toArray)[lo]!) l1.toArray (hi-1) i1=Go.Sort.scanUp (fun x=>Det.ltP zs x (l1.toArray)[lo]!) l1.toArray (hi-1) (lo+1))) (fun g=>match g with | i1=>(hi-1)+2-i1) (lo+1) ?_ ?_
  · refine ⟨hf.to ⟨rfl,rfl,rfl,rfl,rfl,(by first | rfl | exact vI (by omega)),rfl,trivial⟩,hS,?_,?_⟩
    · omega
    · rfl
  clear hf hS a; rintro i1 a w ⟨hf,hS,u1i1,hsu1⟩; refine W.seq<|W.seq<|?_
  refine W.dY (fun w=>St w0 w (oB vX) [rI vP zs] [sl 3 1 vX N (ints l1)]) aV rfl (by kernel_rfl) rfl hS.drew ?_; clear hS; refine q0 hf rfl rfl fun a hf=>q0 hf rfl rfl fun a hf=>OQ.val (v:=.bool (decide ((i1:Int)≤((hi:Int)-1:Int)))) hf rfl (fun w hS=>aA.leq rfl rfl) fun a hf=>q0 hf rfl rfl fun a hf=>?_
  refine OQ.ji (K':=fun a=>Fr a 178 [] [(0,vX),(1,iV lo),(4,(fB 60 fW fH vP)),(10,iV 0),(11,.bool false),(12,iV i1),(13,iV ((hi:Int)-1)),(47,.bool ((decide ((i1:Int)≤((hi:Int)-1:Int)))&&(decide ((Det.cfP zs (l1.getD i1 0) (l1.getD lo 0))<(0:Int)))))]) 12 ?_ ?_
  · rcases Bool.eq_false_or_eq_true (decide ((i1:Int)≤((hi:Int)-1:Int))) with hb1 | hb1
    · have hb1p:=of_decide_eq_true hb1
      refine gm hf rfl rfl hb1 rfl rfl fun a hf=>gm hf rfl rfl hb1 rfl rfl fun a hf=>gm hf rfl rfl hb1 rfl rfl fun a hf=>OQ.gval (v:=ix vX i1) hf rfl rfl hb1 rfl (fun w hS=>aA.ixV (j:=i1) (m:=i1) aB aD rfl rfl (hS.slr (j:=0) rfl) rfl (by omega) (Nat.mul_one _)) fun a hf=>OQ.gval (v:=iV (l1.getD i1 0)) hf rfl rfl hb1 rfl (fun w hS=>aA.ld1 aH rfl (hS.slr (j:=0) rfl) (aI (by omega))) fun a hf=>gm hf rfl rfl hb1 rfl rfl fun a hf=>gm hf rfl rfl hb1 rfl rfl fun a hf=>OQ.gval (v:=ix vX lo) hf rfl rfl hb1 rfl (fun w hS=>aA.ixV (j:=lo) (m:=lo) aB aD rfl rfl (hS.slr (j:=0) rfl) rfl (by omega) (Nat.mul_one _)) fun a hf=>OQ.gval (v:=iV (l1.getD lo 0)) hf rfl rfl hb1 rfl (fun w hS=>aA.ld1 aH rfl (hS.slr (j:=0) rfl) (aI (by omega))) fun a hf=>OQ.gV (v:=iV (Det.cfP zs (l1.getD i1 0) (l1.getD lo 0))) hf rfl rfl hb1 rfl (fun w hS=>dS.call (av:=#[(fG fW fH vP),iV (l1.getD i1 0),iV (l1.getD lo 0)]) dX rfl rfl rfl) (fun w hS=>au fW fH (l1.getD i1 0) (l1.getD lo 0) vP zs _ (hr1.at (by omega)) (hr1.at (by omega)) (hS.aL (j:=0) rfl)) fun a hf=>OQ.gval (v:=.bool (decide ((Det.cfP zs (l1.getD i1 0) (l1.getD lo 0))<(0:Int)))) hf rfl rfl hb1 rfl (fun w hS=>aA.lss rfl rfl) fun a hf=>?_; refine OQ.val (v:=.bool ((decide ((i1:Int)≤((hi:Int)-1:Int)))&&(decide ((Det.cfP zs (l1.getD i1 0) (l1.getD lo 0))<(0:Int))))) hf rfl (fun w hS=>aA.pick rfl rfl rfl (by rw [hb1]; rfl)) fun a hf=>?_; exact OQ.nil (hf.q rfl)
    · have hb1p:=of_decide_eq_false hb1
      refine OQ.aJ hf rfl rfl hb1 rfl fun a hf=>OQ.aJ hf rfl rfl hb1 rfl fun a hf=>OQ.aJ hf rfl rfl hb1 rfl fun a hf=>OQ.aJ hf rfl rfl hb1 rfl fun a hf=>OQ.aJ hf rfl rfl hb1 rfl fun a hf=>OQ.aJ hf rfl rfl hb1 rfl fun a hf=>OQ.aJ hf rfl rfl hb1 rfl fun a hf=>OQ.aJ hf rfl rfl hb1 rfl fun a hf=>OQ.aJ hf rfl rfl hb1 rfl fun a hf=>OQ.aJ hf rfl rfl hb1 rfl fun a hf=>OQ.aJ hf rfl rfl hb1 rfl fun a hf=>?_; refine OQ.val (v:=.bool ((decide ((i1:Int)≤((hi:Int)-1:Int)))&&(decide ((Det.cfP zs (l1.getD i1 0) (l1.getD lo 0))<(0:Int))))) hf rfl (fun w hS=>aA.pick rfl rfl rfl (by rw [hb1]; rfl)) fun a hf=>?_; exact OQ.nil (hf.q rfl)
  clear hf a; intro a hf; refine OQ.nil ?_; intro w hS; refine aF ?_; refine W.if_ hf rfl (fun hs1=>?_) (fun hs1=>?_)
  · have hs1b:=hs1
    try simp only [bsm] at hs1
    refine W.skip<|aF<|W.block<|?_
    refine R3 rfl<|mv hf rfl<|fun a hf=>ov hf rfl (aA.ak rfl rfl (by omega)) fun a hf=>mv hf rfl fun a hf=>?_; refine O.nil<|aG<|?_; refine aS ⟨(i1+1),⟨hf.to ⟨rfl,rfl,rfl,rfl,rfl,(by first | rfl | exact vI (by omega)),rfl,trivial⟩,?_,?_,?_⟩,?_⟩
    · exact hS.eqM rfl
    · omega
    · rw [← hsu1,Det.aBb (i:=i1) (by omega) (by simp only [Det.bI,Det.ltP,Bool.not_eq_true',Bool.not_eq_false',decide_eq_true_eq,decide_eq_false_iff_not]; omega)]
    · dsimp only; omega
  · have hs1b:=hs1
    try simp only [bsm] at hs1
    refine W.exit<|aC<|aC<|bD<|aF<|W.seq<|W.block<|?_
    refine W.loop (G:=(Nat)) (fun g a w=>match g with | j1=>Fr a 178 [] [(0,vX),(1,iV lo),(4,(fB 60 fW fH vP)),(10,iV 0),(11,.bool false),(12,iV i1),(13,iV j1)]∧St w0 w (oB vX) [rI vP zs] [sl 3 1 vX N (ints l1)]∧(j1≤(hi-1)∧i1≤j1+2)∧(Go.Sort.scanDown (fun x=>!Det.ltP zs x (l1.toArray)[lo]!) l1.toArray i1 j1=Go.Sort.scanDown (fun x=>!Det.ltP zs x (l1.toArray)[lo]!) l1.toArray i1 (hi-1))) (fun g=>match g with | j1=>j1) (hi-1) ?_ ?_
    · refine ⟨hf.to ⟨rfl,rfl,rfl,rfl,rfl,rfl,(by first | rfl | exact vI (by omega)),trivial⟩,hS,?_,?_⟩
      · omega
      · rfl
    clear hf hS a; rintro j1 a w ⟨hf,hS,d1j1,hsn1⟩; refine W.seq<|W.seq<|?_
    refine W.dY (fun w=>St w0 w (oB vX) [rI vP zs] [sl 3 1 vX N (ints l1)]) aV rfl (by kernel_rfl) rfl hS.drew ?_; clear hS; refine q0 hf rfl rfl fun a hf=>q0 hf rfl rfl fun a hf=>OQ.val (v:=.bool (decide ((i1:Int)≤((j1:Int):Int)))) hf rfl (fun w hS=>aA.leq rfl rfl) fun a hf=>q0 hf rfl rfl fun a hf=>?_
    refine OQ.ji (K':=fun a=>Fr a 178 [] [(0,vX),(1,iV lo),(4,(fB 60 fW fH vP)),(10,iV 0),(11,.bool false),(12,iV i1),(13,iV j1),(66,.bool ((decide ((i1:Int)≤((j1:Int):Int)))&&(!(decide ((Det.cfP zs (l1.getD j1 0) (l1.getD lo 0))<(0:Int))))))]) 13 ?_ ?_
    · rcases Bool.eq_false_or_eq_true (decide ((i1:Int)≤((j1:Int):Int))) with hb3 | hb3
      · have hb3p:=of_decide_eq_true hb3
        refine gm hf rfl rfl hb3 rfl rfl fun a hf=>gm hf rfl rfl hb3 rfl rfl fun a hf=>gm hf rfl rfl hb3 rfl rfl fun a hf=>OQ.gval (v:=ix vX j1) hf rfl rfl hb3 rfl (fun w hS=>aA.ixV (j:=j1) (m:=j1) aB aD rfl rfl (hS.slr (j:=0) rfl) rfl (by omega) (Nat.mul_one _)) fun a hf=>OQ.gval (v:=iV (l1.getD j1 0)) hf rfl rfl hb3 rfl (fun w hS=>aA.ld1 aH rfl (hS.slr (j:=0) rfl) (aI (by omega))) fun a hf=>gm hf rfl rfl hb3 rfl rfl fun a hf=>gm hf rfl rfl hb3 rfl rfl fun a hf=>OQ.gval (v:=ix vX lo) hf rfl rfl hb3 rfl (fun w hS=>aA.ixV (j:=lo) (m:=lo) aB aD rfl rfl (hS.slr (j:=0) rfl) rfl (by omega) (Nat.mul_one _)) fun a hf=>OQ.gval (v:=iV (l1.getD lo 0)) hf rfl rfl hb3 rfl (fun w hS=>aA.ld1 aH rfl (hS.slr (j:=0) rfl) (aI (by omega))) fun a hf=>OQ.gV (v:=iV (Det.cfP zs (l1.getD j1 0) (l1.getD lo 0))) hf rfl rfl hb3 rfl (fun w hS=>dS.call (av:=#[(fG fW fH vP),iV (l1.getD j1 0),iV (l1.getD lo 0)]) dX rfl rfl rfl) (fun w hS=>au fW fH (l1.getD j1 0) (l1.getD lo 0) vP zs _ (hr1.at (by omega)) (hr1.at (by omega)) (hS.aL (j:=0) rfl)) fun a hf=>OQ.gval (v:=.bool (decide ((Det.cfP zs (l1.getD j1 0) (l1.getD lo 0))<(0:Int)))) hf rfl rfl hb3 rfl (fun w hS=>aA.lss rfl rfl) fun a hf=>OQ.gval (v:=.bool (!(decide ((Det.cfP zs (l1.getD j1 0) (l1.getD lo 0))<(0:Int))))) hf rfl rfl hb3 rfl (fun w hS=>aA.not rfl) fun a hf=>?_; refine OQ.val (v:=.bool ((decide ((i1:Int)≤((j1:Int):Int)))&&(!(decide ((Det.cfP zs (l1.getD j1 0) (l1.getD lo 0))<(0:Int)))))) hf rfl (fun w hS=>aA.pick rfl rfl rfl (by rw [hb3]; rfl)) fun a hf=>?_; exact OQ.nil (hf.q rfl)
      · have hb3p:=of_decide_eq_false hb3
        refine OQ.aJ hf rfl rfl hb3 rfl fun a hf=>OQ.aJ hf rfl rfl hb3 rfl fun a hf=>OQ.aJ hf rfl rfl hb3 rfl fun a hf=>OQ.aJ hf rfl rfl hb3 rfl fun a hf=>OQ.aJ hf rfl rfl hb3 rfl fun a hf=>OQ.aJ hf rfl rfl hb3 rfl fun a hf=>OQ.aJ hf rfl rfl hb3 rfl fun a hf=>OQ.aJ hf rfl rfl hb3 rfl fun a hf=>OQ.aJ hf rfl rfl hb3 rfl fun a hf=>OQ.aJ hf rfl rfl hb3 rfl fun a hf=>OQ.aJ hf rfl rfl hb3 rfl fun a hf=>OQ.aJ hf rfl rfl hb3 rfl fun a hf=>?_; refine OQ.val (v:=.bool ((decide ((i1:Int)≤((j1:Int):Int)))&&(!(decide ((Det.cfP zs (l1.getD j1 0) (l1.getD lo 0))<(0:Int)))))) hf rfl (fun w hS=>aA.pick rfl rfl rfl (by rw [hb3]; rfl)) fun a hf=>?_; exact OQ.nil (hf.q rfl)
    clear hf a; intro a hf; refine OQ.nil ?_; intro w hS; refine aF ?_; refine W.if_ hf rfl (fun hs2=>?_) (fun hs2=>?_)
    · have hs2b:=hs2
      try simp only [bsm] at hs2
      refine W.skip<|aF<|W.block<|?_
      refine R3 rfl<|mv hf rfl<|fun a hf=>ov hf rfl (aA.cZ rfl rfl (by omega)) fun a hf=>mv hf rfl fun a hf=>?_; refine O.nil<|aG<|?_; refine aS ⟨(j1-1),⟨hf.to ⟨rfl,rfl,rfl,rfl,rfl,rfl,(by first | rfl | exact vI (by omega)),trivial⟩,?_,?_,?_⟩,?_⟩
      · exact hS.eqM rfl
      · omega
      · rw [← hsn1,Det.aBI (j:=j1) (by omega) (by omega) (by simp only [Det.bI,Det.ltP,Bool.not_eq_true',Bool.not_eq_false',decide_eq_true_eq,decide_eq_false_iff_not]; omega)]
      · dsimp only; omega
    · have hs2b:=hs2
      try simp only [bsm] at hs2
      refine W.exit<|aC<|aC<|bD<|aF<|W.seq<|W.seq<|?_
      refine R3 rfl<|mv hf rfl<|fun a hf=>mv hf rfl fun a hf=>ov (v:=.bool (decide ((i1:Int)>((j1:Int):Int)))) hf rfl (aA.gtr rfl rfl) fun a hf=>?_; refine nk ?_; refine W.bJ hf rfl (fun hij=>?_) (fun hij=>?_)
      · refine W.seq ?_
        have hf1:Fr a 178 [] []:=hf.to trivial; replace hf:Fr a 178 [] [(0,_),(1,_),(4,_),(10,_),(11,_),(12,_),(13,_)]:=hf.q rfl
        let LZ5447:List (Nat × Value):=[(0,vX),(1,iV lo),(4,(fB 60 fW fH vP)),(10,iV 0),(11,.bool false),(12,iV i1),(13,iV j1)]
        refine W.dn (γ:=Unit) (L0:=LZ5447) (L1:=[]) () [13,15] [] [0,1,2,3,4,5,6,7,8,9,10,11,12,14] (fun i_=>match i_ with | 6=>[4,5] | 7=>[6] | 10=>[8,9] | 11=>[10] | 12=>[0,1] | 13=>[7,12] | 14=>[2,3] | 15=>[11,14] | _=>[]) (fun _=>[]) (fun i_=>match i_ with | 13=>[14,15] | _=>[]) (fun _=>[]) (fun i_=>match i_ with | 14=>1 | 15=>1 | _=>0) (fun i_=>match i_ with | 2=>1 | 3=>1 | 13=>1 | 14=>1 | 15=>2 | _=>0) (fun (g:Unit) j_=>match g,j_ with | _,0=>vX | _,1=>iV j1 | _,2=>vX | _,3=>iV lo | _,4=>vX | _,5=>iV lo | _,6=>ix vX lo | _,7=>iV (l1.getD lo 0) | _,8=>vX | _,9=>iV j1 | _,10=>ix vX j1 | _,11=>iV (l1.getD j1 0) | _,12=>ix vX j1 | _,14=>ix vX lo | _,_=>undef) (fun k_ (_:Nat→Bool) (g:Unit) w=>match k_,g with | 0,_=>St w0 w (oB vX) [rI vP zs] [sl 3 1 vX N (ints l1)] | 1,_=>St w0 w (oB vX) [rI vP zs] [sl 3 1 vX N (ints (l1.set j1 (l1.getD lo 0)))] | _,_=>St w0 w (oB vX) [rI vP zs] [sl 3 1 vX N (ints ((l1.set j1 (l1.getD lo 0)).set lo (l1.getD j1 0)))]) aV (by kernel_rfl) (by kernel_rfl) (by kernel_rfl) hf hf1 hS.drew ?_ ?_ trivial ?_
        · clear hf hf1 hS
          refine ⟨?_,?_,?_,?_,?_,?_,?_,?_,?_,?_,?_,?_,?_,?_,trivial⟩
          · exact qq fun _=>rfl
          · exact qq fun _=>rfl
          · exact qq fun _=>rfl
          · exact qq fun _=>rfl
          · exact qq fun _=>rfl
          · exact qq fun _=>rfl
          · exact s1 (fun _ _ _ _ hD _ hf=>qv hf rfl (aA.ixV (j:=lo) (m:=lo) aB aD rfl rfl (hD.slr (j:=0) rfl) rfl (by omega) (Nat.mul_one _)) hD) rfl
          · exact s1 (fun _ _ _ _ hD _ hf=>qv hf rfl (aA.ld1 aH rfl (hD.slr (j:=0) rfl) (aI (by omega))) hD) rfl
          · exact qq fun _=>rfl
          · exact qq fun _=>rfl
          · exact s1 (fun _ _ _ _ hD _ hf=>qv hf rfl (aA.ixV (j:=j1) (m:=j1) aB aD rfl rfl (hD.slr (j:=0) rfl) rfl (by omega) (Nat.mul_one _)) hD) rfl
          · exact s1 (fun _ _ _ _ hD _ hf=>qv hf rfl (aA.ld1 aH rfl (hD.slr (j:=0) rfl) (aI (by omega))) hD) rfl
          · exact s1 (fun _ _ _ _ hD _ hf=>qv hf rfl (aA.ixV (j:=j1) (m:=j1) aB aD rfl rfl (hD.slr (j:=0) rfl) rfl (by omega) (Nat.mul_one _)) hD) rfl
          · exact s1 (fun _ _ _ _ hD _ hf=>qv hf rfl (aA.ixV (j:=lo) (m:=lo) aB aD rfl rfl (hD.slr (j:=0) rfl) rfl (by omega) (Nat.mul_one _)) hD) rfl
        · clear hf hf1 hS
          refine ⟨?_,?_,trivial⟩
          · intro s_ g w _ hD a hf
            have hS:=hD; clear hD; refine O.bF (j:=0) (m:=j1) (xs':=ints (l1.set j1 (l1.getD lo 0))) (M':=[sl 3 1 vX N (ints (l1.set j1 (l1.getD lo 0)))]) hf hS rfl rfl rfl aD rfl rfl rfl (by simp only [ai,List.length_set]; omega) ints_set rfl rfl ?_; intro w hS; exact nU hf rfl (fun _=>rfl) hS
          · intro s_ g w _ hD a hf
            have hS:=hD; clear hD; refine O.bF (j:=0) (m:=lo) (xs':=ints ((l1.set j1 (l1.getD lo 0)).set lo (l1.getD j1 0))) (M':=[sl 3 1 vX N (ints ((l1.set j1 (l1.getD lo 0)).set lo (l1.getD j1 0)))]) hf hS rfl rfl rfl aD rfl rfl rfl (by simp only [ai,List.length_set]; omega) ints_set rfl rfl ?_; intro w hS; exact nU hf rfl (fun _=>rfl) hS
        clear hf hf1 hS; intro s_ g a w _ hf hD; have hS:=hD; clear hD; replace hf:Fr a 178 [] ((72,vX)::(73,iV j1)::(74,vX)::(75,iV lo)::(76,vX)::(77,iV lo)::(78,ix vX lo)::(79,iV (l1.getD lo 0))::(80,vX)::(81,iV j1)::(82,ix vX j1)::(83,iV (l1.getD j1 0))::(84,ix vX j1)::(85,ix vX lo)::LZ5447):=hf; obtain ⟨l9,hsw⟩:∃ q,Det.swL l1 j1 lo=q:=⟨_,rfl⟩; have hl9:l9.length=N:=by rw [← hsw,Det.dW]; exact hl1
        have hr9:Det.InR zs.length l9:=by rw [← hsw]; exact hr1.sw (by omega) (by omega)
        replace hS:=hS.eqM (N:=[sl 3 1 vX N (ints l9)]) (by rw [← hsw]; rfl); refine aF<|W.seq<|?_
        refine R3 rfl<|mv hf rfl<|fun a hf=>mv hf rfl fun a hf=>mv hf rfl fun a hf=>?_; refine nk<|W.ret<|aK<|eG hf rfl (aO.tmp rfl) (aO.tmp rfl)<|?_; refine ⟨(j1,true,l9),rfl,(hS.sub (List.Sublist.cons_cons _ (List.nil_sublist _))).noB,?_,hl9,hr9⟩; exact Det.aAa hsw1 (hsu1.symm.trans (Det.rJ (by simp only [Det.bI,Det.ltP,Bool.not_eq_true',Bool.not_eq_false',decide_eq_true_eq,decide_eq_false_iff_not]; omega))) (hsn1.symm.trans (Det.qj (by simp only [Det.bI,Det.ltP,Bool.not_eq_true',Bool.not_eq_false',decide_eq_true_eq,decide_eq_false_iff_not]; omega))) (by omega) hsw
      · refine W.skip ?_
        refine aF<|W.seq<|?_
        have hf1:Fr a 178 [] []:=hf.to trivial; replace hf:Fr a 178 [] [(0,_),(1,_),(4,_),(10,_),(11,_),(12,_),(13,_)]:=hf.q rfl
        let LZ5606:List (Nat × Value):=[(0,vX),(1,iV lo),(4,(fB 60 fW fH vP)),(10,iV 0),(11,.bool false),(12,iV i1),(13,iV j1)]
        refine W.dn (γ:=Unit) (L0:=LZ5606) (L1:=[]) () [13,15] [] [0,1,2,3,4,5,6,7,8,9,10,11,12,14] (fun i_=>match i_ with | 6=>[4,5] | 7=>[6] | 10=>[8,9] | 11=>[10] | 12=>[0,1] | 13=>[7,12] | 14=>[2,3] | 15=>[11,14] | _=>[]) (fun _=>[]) (fun i_=>match i_ with | 13=>[14,15] | _=>[]) (fun _=>[]) (fun i_=>match i_ with | 14=>1 | 15=>1 | _=>0) (fun i_=>match i_ with | 2=>1 | 3=>1 | 13=>1 | 14=>1 | 15=>2 | _=>0) (fun (g:Unit) j_=>match g,j_ with | _,0=>vX | _,1=>iV i1 | _,2=>vX | _,3=>iV j1 | _,4=>vX | _,5=>iV j1 | _,6=>ix vX j1 | _,7=>iV (l1.getD j1 0) | _,8=>vX | _,9=>iV i1 | _,10=>ix vX i1 | _,11=>iV (l1.getD i1 0) | _,12=>ix vX i1 | _,14=>ix vX j1 | _,_=>undef) (fun k_ (_:Nat→Bool) (g:Unit) w=>match k_,g with | 0,_=>St w0 w (oB vX) [rI vP zs] [sl 3 1 vX N (ints l1)] | 1,_=>St w0 w (oB vX) [rI vP zs] [sl 3 1 vX N (ints (l1.set i1 (l1.getD j1 0)))] | _,_=>St w0 w (oB vX) [rI vP zs] [sl 3 1 vX N (ints ((l1.set i1 (l1.getD j1 0)).set j1 (l1.getD i1 0)))]) aV (by kernel_rfl) (by kernel_rfl) (by kernel_rfl) hf hf1 hS.drew ?_ ?_ trivial ?_
        · clear hf hf1 hS
          refine ⟨?_,?_,?_,?_,?_,?_,?_,?_,?_,?_,?_,?_,?_,?_,trivial⟩
          · exact qq fun _=>rfl
          · exact qq fun _=>rfl
          · exact qq fun _=>rfl
          · exact qq fun _=>rfl
          · exact qq fun _=>rfl
          · exact qq fun _=>rfl
          · exact s1 (fun _ _ _ _ hD _ hf=>qv hf rfl (aA.ixV (j:=j1) (m:=j1) aB aD rfl rfl (hD.slr (j:=0) rfl) rfl (by omega) (Nat.mul_one _)) hD) rfl
          · exact s1 (fun _ _ _ _ hD _ hf=>qv hf rfl (aA.ld1 aH rfl (hD.slr (j:=0) rfl) (aI (by omega))) hD) rfl
          · exact qq fun _=>rfl
          · exact qq fun _=>rfl
          · exact s1 (fun _ _ _ _ hD _ hf=>qv hf rfl (aA.ixV (j:=i1) (m:=i1) aB aD rfl rfl (hD.slr (j:=0) rfl) rfl (by omega) (Nat.mul_one _)) hD) rfl
          · exact s1 (fun _ _ _ _ hD _ hf=>qv hf rfl (aA.ld1 aH rfl (hD.slr (j:=0) rfl) (aI (by omega))) hD) rfl
          · exact s1 (fun _ _ _ _ hD _ hf=>qv hf rfl (aA.ixV (j:=i1) (m:=i1) aB aD rfl rfl (hD.slr (j:=0) rfl) rfl (by omega) (Nat.mul_one _)) hD) rfl
          · exact s1 (fun _ _ _ _ hD _ hf=>qv hf rfl (aA.ixV (j:=j1) (m:=j1) aB aD rfl rfl (hD.slr (j:=0) rfl) rfl (by omega) (Nat.mul_one _)) hD) rfl
        · clear hf hf1 hS
          refine ⟨?_,?_,trivial⟩
          · intro s_ g w _ hD a hf
            have hS:=hD; clear hD; refine O.bF (j:=0) (m:=i1) (xs':=ints (l1.set i1 (l1.getD j1 0))) (M':=[sl 3 1 vX N (ints (l1.set i1 (l1.getD j1 0)))]) hf hS rfl rfl rfl aD rfl rfl rfl (by simp only [ai,List.length_set]; omega) ints_set rfl rfl ?_; intro w hS; exact nU hf rfl (fun _=>rfl) hS
          · intro s_ g w _ hD a hf
            have hS:=hD; clear hD; refine O.bF (j:=0) (m:=j1) (xs':=ints ((l1.set i1 (l1.getD j1 0)).set j1 (l1.getD i1 0))) (M':=[sl 3 1 vX N (ints ((l1.set i1 (l1.getD j1 0)).set j1 (l1.getD i1 0)))]) hf hS rfl rfl rfl aD rfl rfl rfl (by simp only [ai,List.length_set]; omega) ints_set rfl rfl ?_; intro w hS; exact nU hf rfl (fun _=>rfl) hS
        clear hf hf1 hS; intro s_ g a w _ hf hD; have hS:=hD; clear hD; replace hf:Fr a 178 [] ((87,vX)::(88,iV i1)::(89,vX)::(90,iV j1)::(91,vX)::(92,iV j1)::(93,ix vX j1)::(94,iV (l1.getD j1 0))::(95,vX)::(96,iV i1)::(97,ix vX i1)::(98,iV (l1.getD i1 0))::(99,ix vX i1)::(100,ix vX j1)::LZ5606):=hf; obtain ⟨l2,hsw⟩:∃ q,Det.swL l1 i1 j1=q:=⟨_,rfl⟩; have hl2:l2.length=N:=by rw [← hsw,Det.dW]; exact hl1
        have hr2:Det.InR zs.length l2:=by rw [← hsw]; exact hr1.sw (by omega) (by omega)
        replace hS:=hS.eqM (N:=[sl 3 1 vX N (ints l2)]) (by rw [← hsw]; rfl); have hsw2:=hsw; clear hsw; refine aF<|W.seq<|?_
        refine R3 rfl<|mv hf rfl<|fun a hf=>ov hf rfl (aA.ak rfl rfl (by omega)) fun a hf=>mv hf rfl fun a hf=>?_; refine nk<|W.seq<|?_
        refine R3 rfl<|mv hf rfl<|fun a hf=>ov hf rfl (aA.cZ rfl rfl (by omega)) fun a hf=>mv hf rfl fun a hf=>?_; refine nk ?_; replace hf:Fr a 178 [] [(0,_),(1,_),(4,_),(10,_),(11,_),(12,_),(13,_)]:=hf.q rfl; refine W.seq<|W.block<|?_
        refine W.loop (G:=(Nat) × (Nat) × (List Int)) (fun g a w=>match g with | (i3,j3,l3)=>Fr a 178 [] [(0,vX),(1,iV lo),(4,(fB 60 fW fH vP)),(10,iV 0),(11,.bool false),(12,iV i3),(13,iV j3)]∧St w0 w (oB vX) [rI vP zs] [sl 3 1 vX N (ints l3)]∧(lo+1≤i3∧i3≤j3+2∧j3<hi)∧(l3.length=N)∧(Det.InR zs.length l3)∧(Go.Sort.partLoop (Det.ltP zs) lo i3 j3 l3.toArray=Go.Sort.partLoop (Det.ltP zs) lo (i1+1) (j1-1) l2.toArray)) (fun g=>match g with | (i3,j3,l3)=>j3+1-i3) ((i1+1),(j1-1),l2) ?_ ?_
        · refine ⟨hf.to ⟨rfl,rfl,rfl,rfl,rfl,(by first | rfl | exact vI (by omega)),(by first | rfl | exact vI (by omega)),trivial⟩,hS,?_,?_,?_,?_⟩
          · omega
          · exact hl2
          · exact hr2
          · rfl
        clear hf hS a; rintro ⟨i3,j3,l3⟩ a w ⟨hf,hS,h0,hl3,hr3,he⟩; refine W.block<|W.seq<|W.block<|?_
        refine W.loop (G:=(Nat)) (fun g a w=>match g with | i4=>Fr a 178 [] [(0,vX),(1,iV lo),(4,(fB 60 fW fH vP)),(10,iV 0),(11,.bool false),(12,iV i4),(13,iV j3)]∧St w0 w (oB vX) [rI vP zs] [sl 3 1 vX N (ints l3)]∧(i3≤i4∧i4≤j3+2)∧(Go.Sort.scanUp (fun x=>Det.ltP zs x (l3.toArray)[lo]!) l3.toArray j3 i4=Go.Sort.scanUp (fun x=>Det.ltP zs x (l3.toArray)[lo]!) l3.toArray j3 i3)) (fun g=>match g with | i4=>j3+2-i4) i3 ?_ ?_
        · refine ⟨hf.to ⟨rfl,rfl,rfl,rfl,rfl,(by first | rfl | exact vI (by omega)),rfl,trivial⟩,hS,?_,?_⟩
          · omega
          · rfl
        clear hf hS a; rintro i4 a w ⟨hf,hS,u1i4,hsu⟩; refine W.seq<|W.seq<|?_
        refine W.dY (fun w=>St w0 w (oB vX) [rI vP zs] [sl 3 1 vX N (ints l3)]) aV rfl (by kernel_rfl) rfl hS.drew ?_; clear hS; refine q0 hf rfl rfl fun a hf=>q0 hf rfl rfl fun a hf=>OQ.val (v:=.bool (decide ((i4:Int)≤((j3:Int):Int)))) hf rfl (fun w hS=>aA.leq rfl rfl) fun a hf=>q0 hf rfl rfl fun a hf=>?_
        refine OQ.ji (K':=fun a=>Fr a 178 [] [(0,vX),(1,iV lo),(4,(fB 60 fW fH vP)),(10,iV 0),(11,.bool false),(12,iV i4),(13,iV j3),(120,.bool ((decide ((i4:Int)≤((j3:Int):Int)))&&(decide ((Det.cfP zs (l3.getD i4 0) (l3.getD lo 0))<(0:Int)))))]) 12 ?_ ?_
        · rcases Bool.eq_false_or_eq_true (decide ((i4:Int)≤((j3:Int):Int))) with hb6 | hb6
          · have hb6p:=of_decide_eq_true hb6
            refine gm hf rfl rfl hb6 rfl rfl fun a hf=>gm hf rfl rfl hb6 rfl rfl fun a hf=>gm hf rfl rfl hb6 rfl rfl fun a hf=>OQ.gval (v:=ix vX i4) hf rfl rfl hb6 rfl (fun w hS=>aA.ixV (j:=i4) (m:=i4) aB aD rfl rfl (hS.slr (j:=0) rfl) rfl (by omega) (Nat.mul_one _)) fun a hf=>OQ.gval (v:=iV (l3.getD i4 0)) hf rfl rfl hb6 rfl (fun w hS=>aA.ld1 aH rfl (hS.slr (j:=0) rfl) (aI (by omega))) fun a hf=>gm hf rfl rfl hb6 rfl rfl fun a hf=>gm hf rfl rfl hb6 rfl rfl fun a hf=>OQ.gval (v:=ix vX lo) hf rfl rfl hb6 rfl (fun w hS=>aA.ixV (j:=lo) (m:=lo) aB aD rfl rfl (hS.slr (j:=0) rfl) rfl (by omega) (Nat.mul_one _)) fun a hf=>OQ.gval (v:=iV (l3.getD lo 0)) hf rfl rfl hb6 rfl (fun w hS=>aA.ld1 aH rfl (hS.slr (j:=0) rfl) (aI (by omega))) fun a hf=>OQ.gV (v:=iV (Det.cfP zs (l3.getD i4 0) (l3.getD lo 0))) hf rfl rfl hb6 rfl (fun w hS=>dS.call (av:=#[(fG fW fH vP),iV (l3.getD i4 0),iV (l3.getD lo 0)]) dX rfl rfl rfl) (fun w hS=>au fW fH (l3.getD i4 0) (l3.getD lo 0) vP zs _ (hr3.at (by omega)) (hr3.at (by omega)) (hS.aL (j:=0) rfl)) fun a hf=>OQ.gval (v:=.bool (decide ((Det.cfP zs (l3.getD i4 0) (l3.getD lo 0))<(0:Int)))) hf rfl rfl hb6 rfl (fun w hS=>aA.lss rfl rfl) fun a hf=>?_; refine OQ.val (v:=.bool ((decide ((i4:Int)≤((j3:Int):Int)))&&(decide ((Det.cfP zs (l3.getD i4 0) (l3.getD lo 0))<(0:Int))))) hf rfl (fun w hS=>aA.pick rfl rfl rfl (by rw [hb6]; rfl)) fun a hf=>?_; exact OQ.nil (hf.q rfl)
          · have hb6p:=of_decide_eq_false hb6
            refine OQ.aJ hf rfl rfl hb6 rfl fun a hf=>OQ.aJ hf rfl rfl hb6 rfl fun a hf=>OQ.aJ hf rfl rfl hb6 rfl fun a hf=>OQ.aJ hf rfl rfl hb6 rfl fun a hf=>OQ.aJ hf rfl rfl hb6 rfl fun a hf=>OQ.aJ hf rfl rfl hb6 rfl fun a hf=>OQ.aJ hf rfl rfl hb6 rfl fun a hf=>OQ.aJ hf rfl rfl hb6 rfl fun a hf=>OQ.aJ hf rfl rfl hb6 rfl fun a hf=>OQ.aJ hf rfl rfl hb6 rfl fun a hf=>OQ.aJ hf rfl rfl hb6 rfl fun a hf=>?_; refine OQ.val (v:=.bool ((decide ((i4:Int)≤((j3:Int):Int)))&&(decide ((Det.cfP zs (l3.getD i4 0) (l3.getD lo 0))<(0:Int))))) hf rfl (fun w hS=>aA.pick rfl rfl rfl (by rw [hb6]; rfl)) fun a hf=>?_; exact OQ.nil (hf.q rfl)
        clear hf a; intro a hf; refine OQ.nil ?_; intro w hS; refine aF ?_; refine W.if_ hf rfl (fun hs3=>?_) (fun hs3=>?_)
        · have hs3b:=hs3
          try simp only [bsm] at hs3
          refine W.skip<|aF<|W.block<|?_
          refine R3 rfl<|mv hf rfl<|fun a hf=>ov hf rfl (aA.ak rfl rfl (by omega)) fun a hf=>mv hf rfl fun a hf=>?_; refine O.nil<|aG<|?_; refine aS ⟨(i4+1),⟨hf.to ⟨rfl,rfl,rfl,rfl,rfl,(by first | rfl | exact vI (by omega)),rfl,trivial⟩,?_,?_,?_⟩,?_⟩
          · exact hS.eqM rfl
          · omega
          · rw [← hsu,Det.aBb (i:=i4) (by omega) (by simp only [Det.bI,Det.ltP,Bool.not_eq_true',Bool.not_eq_false',decide_eq_true_eq,decide_eq_false_iff_not]; omega)]
          · dsimp only; omega
        · have hs3b:=hs3
          try simp only [bsm] at hs3
          refine W.exit<|aC<|aC<|bD<|aF<|W.seq<|W.block<|?_
          refine W.loop (G:=(Nat)) (fun g a w=>match g with | j4=>Fr a 178 [] [(0,vX),(1,iV lo),(4,(fB 60 fW fH vP)),(10,iV 0),(11,.bool false),(12,iV i4),(13,iV j4)]∧St w0 w (oB vX) [rI vP zs] [sl 3 1 vX N (ints l3)]∧(j4≤j3∧i4≤j4+2)∧(Go.Sort.scanDown (fun x=>!Det.ltP zs x (l3.toArray)[lo]!) l3.toArray i4 j4=Go.Sort.scanDown (fun x=>!Det.ltP zs x (l3.toArray)[lo]!) l3.toArray i4 j3)) (fun g=>match g with | j4=>j4) j3 ?_ ?_
          · refine ⟨hf.to ⟨rfl,rfl,rfl,rfl,rfl,rfl,(by first | rfl | exact vI (by omega)),trivial⟩,hS,?_,?_⟩
            · omega
            · rfl
          clear hf hS a; rintro j4 a w ⟨hf,hS,d1j4,hsn⟩; refine W.seq<|W.seq<|?_
          refine W.dY (fun w=>St w0 w (oB vX) [rI vP zs] [sl 3 1 vX N (ints l3)]) aV rfl (by kernel_rfl) rfl hS.drew ?_; clear hS; refine q0 hf rfl rfl fun a hf=>q0 hf rfl rfl fun a hf=>OQ.val (v:=.bool (decide ((i4:Int)≤((j4:Int):Int)))) hf rfl (fun w hS=>aA.leq rfl rfl) fun a hf=>q0 hf rfl rfl fun a hf=>?_
          refine OQ.ji (K':=fun a=>Fr a 178 [] [(0,vX),(1,iV lo),(4,(fB 60 fW fH vP)),(10,iV 0),(11,.bool false),(12,iV i4),(13,iV j4),(139,.bool ((decide ((i4:Int)≤((j4:Int):Int)))&&(!(decide ((Det.cfP zs (l3.getD j4 0) (l3.getD lo 0))<(0:Int))))))]) 13 ?_ ?_
          · rcases Bool.eq_false_or_eq_true (decide ((i4:Int)≤((j4:Int):Int))) with hb8 | hb8
            · have hb8p:=of_decide_eq_true hb8
              refine gm hf rfl rfl hb8 rfl rfl fun a hf=>gm hf rfl rfl hb8 rfl rfl fun a hf=>gm hf rfl rfl hb8 rfl rfl fun a hf=>OQ.gval (v:=ix vX j4) hf rfl rfl hb8 rfl (fun w hS=>aA.ixV (j:=j4) (m:=j4) aB aD rfl rfl (hS.slr (j:=0) rfl) rfl (by omega) (Nat.mul_one _)) fun a hf=>OQ.gval (v:=iV (l3.getD j4 0)) hf rfl rfl hb8 rfl (fun w hS=>aA.ld1 aH rfl (hS.slr (j:=0) rfl) (aI (by omega))) fun a hf=>gm hf rfl rfl hb8 rfl rfl fun a hf=>gm hf rfl rfl hb8 rfl rfl fun a hf=>OQ.gval (v:=ix vX lo) hf rfl rfl hb8 rfl (fun w hS=>aA.ixV (j:=lo) (m:=lo) aB aD rfl rfl (hS.slr (j:=0) rfl) rfl (by omega) (Nat.mul_one _)) fun a hf=>OQ.gval (v:=iV (l3.getD lo 0)) hf rfl rfl hb8 rfl (fun w hS=>aA.ld1 aH rfl (hS.slr (j:=0) rfl) (aI (by omega))) fun a hf=>OQ.gV (v:=iV (Det.cfP zs (l3.getD j4 0) (l3.getD lo 0))) hf rfl rfl hb8 rfl (fun w hS=>dS.call (av:=#[(fG fW fH vP),iV (l3.getD j4 0),iV (l3.getD lo 0)]) dX rfl rfl rfl) (fun w hS=>au fW fH (l3.getD j4 0) (l3.getD lo 0) vP zs _ (hr3.at (by omega)) (hr3.at (by omega)) (hS.aL (j:=0) rfl)) fun a hf=>OQ.gval (v:=.bool (decide ((Det.cfP zs (l3.getD j4 0) (l3.getD lo 0))<(0:Int)))) hf rfl rfl hb8 rfl (fun w hS=>aA.lss rfl rfl) fun a hf=>OQ.gval (v:=.bool (!(decide ((Det.cfP zs (l3.getD j4 0) (l3.getD lo 0))<(0:Int))))) hf rfl rfl hb8 rfl (fun w hS=>aA.not rfl) fun a hf=>?_; refine OQ.val (v:=.bool ((decide ((i4:Int)≤((j4:Int):Int)))&&(!(decide ((Det.cfP zs (l3.getD j4 0) (l3.getD lo 0))<(0:Int)))))) hf rfl (fun w hS=>aA.pick rfl rfl rfl (by rw [hb8]; rfl)) fun a hf=>?_; exact OQ.nil (hf.q rfl)
            · have hb8p:=of_decide_eq_false hb8
              refine OQ.aJ hf rfl rfl hb8 rfl fun a hf=>OQ.aJ hf rfl rfl hb8 rfl fun a hf=>OQ.aJ hf rfl rfl hb8 rfl fun a hf=>OQ.aJ hf rfl rfl hb8 rfl fun a hf=>OQ.aJ hf rfl rfl hb8 rfl fun a hf=>OQ.aJ hf rfl rfl hb8 rfl fun a hf=>OQ.aJ hf rfl rfl hb8 rfl fun a hf=>OQ.aJ hf rfl rfl hb8 rfl fun a hf=>OQ.aJ hf rfl rfl hb8 rfl fun a hf=>OQ.aJ hf rfl rfl hb8 rfl fun a hf=>OQ.aJ hf rfl rfl hb8 rfl fun a hf=>OQ.aJ hf rfl rfl hb8 rfl fun a hf=>?_; refine OQ.val (v:=.bool ((decide ((i4:Int)≤((j4:Int):Int)))&&(!(decide ((Det.cfP zs (l3.getD j4 0) (l3.getD lo 0))<(0:Int)))))) hf rfl (fun w hS=>aA.pick rfl rfl rfl (by rw [hb8]; rfl)) fun a hf=>?_; exact OQ.nil (hf.q rfl)
          clear hf a; intro a hf; refine OQ.nil ?_; intro w hS; refine aF ?_; refine W.if_ hf rfl (fun hs4=>?_) (fun hs4=>?_)
          · have hs4b:=hs4
            try simp only [bsm] at hs4
            refine W.skip<|aF<|W.block<|?_
            refine R3 rfl<|mv hf rfl<|fun a hf=>ov hf rfl (aA.cZ rfl rfl (by omega)) fun a hf=>mv hf rfl fun a hf=>?_; refine O.nil<|aG<|?_; refine aS ⟨(j4-1),⟨hf.to ⟨rfl,rfl,rfl,rfl,rfl,rfl,(by first | rfl | exact vI (by omega)),trivial⟩,?_,?_,?_⟩,?_⟩
            · exact hS.eqM rfl
            · omega
            · rw [← hsn,Det.aBI (j:=j4) (by omega) (by omega) (by simp only [Det.bI,Det.ltP,Bool.not_eq_true',Bool.not_eq_false',decide_eq_true_eq,decide_eq_false_iff_not]; omega)]
            · dsimp only; omega
          · have hs4b:=hs4
            try simp only [bsm] at hs4
            refine W.exit<|aC<|aC<|bD<|aF<|W.seq<|W.seq<|?_
            refine R3 rfl<|mv hf rfl<|fun a hf=>mv hf rfl fun a hf=>ov (v:=.bool (decide ((i4:Int)>((j4:Int):Int)))) hf rfl (aA.gtr rfl rfl) fun a hf=>?_; refine nk ?_; refine W.bJ hf rfl (fun hij2=>?_) (fun hij2=>?_)
            · refine W.exit ?_
              refine aC<|fT rfl<|aC<|bD<|aF<|W.seq<|?_
              have hf1:Fr a 178 [] []:=hf.to trivial; replace hf:Fr a 178 [] [(0,_),(1,_),(10,_),(11,_),(13,_)]:=hf.q rfl
              let LZ5966:List (Nat × Value):=[(0,vX),(1,iV lo),(10,iV 0),(11,.bool false),(13,iV j4)]
              refine W.dn (γ:=Unit) (L0:=LZ5966) (L1:=[]) () [13,15] [] [0,1,2,3,4,5,6,7,8,9,10,11,12,14] (fun i_=>match i_ with | 6=>[4,5] | 7=>[6] | 10=>[8,9] | 11=>[10] | 12=>[0,1] | 13=>[7,12] | 14=>[2,3] | 15=>[11,14] | _=>[]) (fun _=>[]) (fun i_=>match i_ with | 13=>[14,15] | _=>[]) (fun _=>[]) (fun i_=>match i_ with | 14=>1 | 15=>1 | _=>0) (fun i_=>match i_ with | 2=>1 | 3=>1 | 13=>1 | 14=>1 | 15=>2 | _=>0) (fun (g:Unit) j_=>match g,j_ with | _,0=>vX | _,1=>iV j4 | _,2=>vX | _,3=>iV lo | _,4=>vX | _,5=>iV lo | _,6=>ix vX lo | _,7=>iV (l3.getD lo 0) | _,8=>vX | _,9=>iV j4 | _,10=>ix vX j4 | _,11=>iV (l3.getD j4 0) | _,12=>ix vX j4 | _,14=>ix vX lo | _,_=>undef) (fun k_ (_:Nat→Bool) (g:Unit) w=>match k_,g with | 0,_=>St w0 w (oB vX) [rI vP zs] [sl 3 1 vX N (ints l3)] | 1,_=>St w0 w (oB vX) [rI vP zs] [sl 3 1 vX N (ints (l3.set j4 (l3.getD lo 0)))] | _,_=>St w0 w (oB vX) [rI vP zs] [sl 3 1 vX N (ints ((l3.set j4 (l3.getD lo 0)).set lo (l3.getD j4 0)))]) aV (by kernel_rfl) (by kernel_rfl) (by kernel_rfl) hf hf1 hS.drew ?_ ?_ trivial ?_
              · clear hf hf1 hS
                refine ⟨?_,?_,?_,?_,?_,?_,?_,?_,?_,?_,?_,?_,?_,?_,trivial⟩
                · exact qq fun _=>rfl
                · exact qq fun _=>rfl
                · exact qq fun _=>rfl
                · exact qq fun _=>rfl
                · exact qq fun _=>rfl
                · exact qq fun _=>rfl
                · exact s1 (fun _ _ _ _ hD _ hf=>qv hf rfl (aA.ixV (j:=lo) (m:=lo) aB aD rfl rfl (hD.slr (j:=0) rfl) rfl (by omega) (Nat.mul_one _)) hD) rfl
                · exact s1 (fun _ _ _ _ hD _ hf=>qv hf rfl (aA.ld1 aH rfl (hD.slr (j:=0) rfl) (aI (by omega))) hD) rfl
                · exact qq fun _=>rfl
                · exact qq fun _=>rfl
                · exact s1 (fun _ _ _ _ hD _ hf=>qv hf rfl (aA.ixV (j:=j4) (m:=j4) aB aD rfl rfl (hD.slr (j:=0) rfl) rfl (by omega) (Nat.mul_one _)) hD) rfl
                · exact s1 (fun _ _ _ _ hD _ hf=>qv hf rfl (aA.ld1 aH rfl (hD.slr (j:=0) rfl) (aI (by omega))) hD) rfl
                · exact s1 (fun _ _ _ _ hD _ hf=>qv hf rfl (aA.ixV (j:=j4) (m:=j4) aB aD rfl rfl (hD.slr (j:=0) rfl) rfl (by omega) (Nat.mul_one _)) hD) rfl
                · exact s1 (fun _ _ _ _ hD _ hf=>qv hf rfl (aA.ixV (j:=lo) (m:=lo) aB aD rfl rfl (hD.slr (j:=0) rfl) rfl (by omega) (Nat.mul_one _)) hD) rfl
              · clear hf hf1 hS
                refine ⟨?_,?_,trivial⟩
                · intro s_ g w _ hD a hf
                  have hS:=hD; clear hD; refine O.bF (j:=0) (m:=j4) (xs':=ints (l3.set j4 (l3.getD lo 0))) (M':=[sl 3 1 vX N (ints (l3.set j4 (l3.getD lo 0)))]) hf hS rfl rfl rfl aD rfl rfl rfl (by simp only [ai,List.length_set]; omega) ints_set rfl rfl ?_; intro w hS; exact nU hf rfl (fun _=>rfl) hS
                · intro s_ g w _ hD a hf
                  have hS:=hD; clear hD; refine O.bF (j:=0) (m:=lo) (xs':=ints ((l3.set j4 (l3.getD lo 0)).set lo (l3.getD j4 0))) (M':=[sl 3 1 vX N (ints ((l3.set j4 (l3.getD lo 0)).set lo (l3.getD j4 0)))]) hf hS rfl rfl rfl aD rfl rfl rfl (by simp only [ai,List.length_set]; omega) ints_set rfl rfl ?_; intro w hS; exact nU hf rfl (fun _=>rfl) hS
              clear hf hf1 hS; intro s_ g a w _ hf hD; have hS:=hD; clear hD; replace hf:Fr a 178 [] ((163,vX)::(164,iV j4)::(165,vX)::(166,iV lo)::(167,vX)::(168,iV lo)::(169,ix vX lo)::(170,iV (l3.getD lo 0))::(171,vX)::(172,iV j4)::(173,ix vX j4)::(174,iV (l3.getD j4 0))::(175,ix vX j4)::(176,ix vX lo)::LZ5966):=hf; obtain ⟨l5,hsw⟩:∃ q,Det.swL l3 j4 lo=q:=⟨_,rfl⟩; have hl5:l5.length=N:=by rw [← hsw,Det.dW]; exact hl3
              have hr5:Det.InR zs.length l5:=by rw [← hsw]; exact hr3.sw (by omega) (by omega)
              replace hS:=hS.eqM (N:=[sl 3 1 vX N (ints l5)]) (by rw [← hsw]; rfl); refine aF<|W.seq<|?_
              refine R3 rfl<|mv hf rfl<|fun a hf=>mv hf rfl fun a hf=>mv hf rfl fun a hf=>?_; refine nk<|W.ret<|eG hf rfl (aO.tmp rfl) (aO.tmp rfl)<|?_; refine ⟨(j4,false,l5),rfl,(hS.sub (List.Sublist.cons_cons _ (List.nil_sublist _))).noB,?_,hl5,hr5⟩; exact Det.aEh hsw1 (hsu1.symm.trans (Det.rJ (by simp only [Det.bI,Det.ltP,Bool.not_eq_true',Bool.not_eq_false',decide_eq_true_eq,decide_eq_false_iff_not]; omega))) (hsn1.symm.trans (Det.qj (by simp only [Det.bI,Det.ltP,Bool.not_eq_true',Bool.not_eq_false',decide_eq_true_eq,decide_eq_false_iff_not]; omega))) (by omega) hsw2 (he.symm.trans (Det.aEH (hsu.symm.trans (Det.rJ (by simp only [Det.bI,Det.ltP,Bool.not_eq_true',Bool.not_eq_false',decide_eq_true_eq,decide_eq_false_iff_not]; omega))) (hsn.symm.trans (Det.qj (by simp only [Det.bI,Det.ltP,Bool.not_eq_true',Bool.not_eq_false',decide_eq_true_eq,decide_eq_false_iff_not]; omega))) (by omega))) hsw
            · refine W.skip ?_
              refine aF<|W.seq<|?_
              have hf1:Fr a 178 [] []:=hf.to trivial; replace hf:Fr a 178 [] [(0,_),(1,_),(4,_),(10,_),(11,_),(12,_),(13,_)]:=hf.q rfl
              let LZ6124:List (Nat × Value):=[(0,vX),(1,iV lo),(4,(fB 60 fW fH vP)),(10,iV 0),(11,.bool false),(12,iV i4),(13,iV j4)]
              refine W.dn (γ:=Unit) (L0:=LZ6124) (L1:=[]) () [13,15] [] [0,1,2,3,4,5,6,7,8,9,10,11,12,14] (fun i_=>match i_ with | 6=>[4,5] | 7=>[6] | 10=>[8,9] | 11=>[10] | 12=>[0,1] | 13=>[7,12] | 14=>[2,3] | 15=>[11,14] | _=>[]) (fun _=>[]) (fun i_=>match i_ with | 13=>[14,15] | _=>[]) (fun _=>[]) (fun i_=>match i_ with | 14=>1 | 15=>1 | _=>0) (fun i_=>match i_ with | 2=>1 | 3=>1 | 13=>1 | 14=>1 | 15=>2 | _=>0) (fun (g:Unit) j_=>match g,j_ with | _,0=>vX | _,1=>iV i4 | _,2=>vX | _,3=>iV j4 | _,4=>vX | _,5=>iV j4 | _,6=>ix vX j4 | _,7=>iV (l3.getD j4 0) | _,8=>vX | _,9=>iV i4 | _,10=>ix vX i4 | _,11=>iV (l3.getD i4 0) | _,12=>ix vX i4 | _,14=>ix vX j4 | _,_=>undef) (fun k_ (_:Nat→Bool) (g:Unit) w=>match k_,g with | 0,_=>St w0 w (oB vX) [rI vP zs] [sl 3 1 vX N (ints l3)] | 1,_=>St w0 w (oB vX) [rI vP zs] [sl 3 1 vX N (ints (l3.set i4 (l3.getD j4 0)))] | _,_=>St w0 w (oB vX) [rI vP zs] [sl 3 1 vX N (ints ((l3.set i4 (l3.getD j4 0)).set j4 (l3.getD i4 0)))]) aV (by kernel_rfl) (by kernel_rfl) (by kernel_rfl) hf hf1 hS.drew ?_ ?_ trivial ?_
              · clear hf hf1 hS
                refine ⟨?_,?_,?_,?_,?_,?_,?_,?_,?_,?_,?_,?_,?_,?_,trivial⟩
                · exact qq fun _=>rfl
                · exact qq fun _=>rfl
                · exact qq fun _=>rfl
                · exact qq fun _=>rfl
                · exact qq fun _=>rfl
                · exact qq fun _=>rfl
                · exact s1 (fun _ _ _ _ hD _ hf=>qv hf rfl (aA.ixV (j:=j4) (m:=j4) aB aD rfl rfl (hD.slr (j:=0) rfl) rfl (by omega) (Nat.mul_one _)) hD) rfl
                · exact s1 (fun _ _ _ _ hD _ hf=>qv hf rfl (aA.ld1 aH rfl (hD.slr (j:=0) rfl) (aI (by omega))) hD) rfl
                · exact qq fun _=>rfl
                · exact qq fun _=>rfl
                · exact s1 (fun _ _ _ _ hD _ hf=>qv hf rfl (aA.ixV (j:=i4) (m:=i4) aB aD rfl rfl (hD.slr (j:=0) rfl) rfl (by omega) (Nat.mul_one _)) hD) rfl
                · exact s1 (fun _ _ _ _ hD _ hf=>qv hf rfl (aA.ld1 aH rfl (hD.slr (j:=0) rfl) (aI (by omega))) hD) rfl
                · exact s1 (fun _ _ _ _ hD _ hf=>qv hf rfl (aA.ixV (j:=i4) (m:=i4) aB aD rfl rfl (hD.slr (j:=0) rfl) rfl (by omega) (Nat.mul_one _)) hD) rfl
                · exact s1 (fun _ _ _ _ hD _ hf=>qv hf rfl (aA.ixV (j:=j4) (m:=j4) aB aD rfl rfl (hD.slr (j:=0) rfl) rfl (by omega) (Nat.mul_one _)) hD) rfl
              · clear hf hf1 hS
                refine ⟨?_,?_,trivial⟩
                · intro s_ g w _ hD a hf
                  have hS:=hD; clear hD; refine O.bF (j:=0) (m:=i4) (xs':=ints (l3.set i4 (l3.getD j4 0))) (M':=[sl 3 1 vX N (ints (l3.set i4 (l3.getD j4 0)))]) hf hS rfl rfl rfl aD rfl rfl rfl (by simp only [ai,List.length_set]; omega) ints_set rfl rfl ?_; intro w hS; exact nU hf rfl (fun _=>rfl) hS
                · intro s_ g w _ hD a hf
                  have hS:=hD; clear hD; refine O.bF (j:=0) (m:=j4) (xs':=ints ((l3.set i4 (l3.getD j4 0)).set j4 (l3.getD i4 0))) (M':=[sl 3 1 vX N (ints ((l3.set i4 (l3.getD j4 0)).set j4 (l3.getD i4 0)))]) hf hS rfl rfl rfl aD rfl rfl rfl (by simp only [ai,List.length_set]; omega) ints_set rfl rfl ?_; intro w hS; exact nU hf rfl (fun _=>rfl) hS
              clear hf hf1 hS; intro s_ g a w _ hf hD; have hS:=hD; clear hD; replace hf:Fr a 178 [] ((145,vX)::(146,iV i4)::(147,vX)::(148,iV j4)::(149,vX)::(150,iV j4)::(151,ix vX j4)::(152,iV (l3.getD j4 0))::(153,vX)::(154,iV i4)::(155,ix vX i4)::(156,iV (l3.getD i4 0))::(157,ix vX i4)::(158,ix vX j4)::LZ6124):=hf; obtain ⟨l4,hsw⟩:∃ q,Det.swL l3 i4 j4=q:=⟨_,rfl⟩; have hl4:l4.length=N:=by rw [← hsw,Det.dW]; exact hl3
              have hr4:Det.InR zs.length l4:=by rw [← hsw]; exact hr3.sw (by omega) (by omega)
              replace hS:=hS.eqM (N:=[sl 3 1 vX N (ints l4)]) (by rw [← hsw]; rfl); refine aF<|W.seq<|?_
              refine R3 rfl<|mv hf rfl<|fun a hf=>ov hf rfl (aA.ak rfl rfl (by omega)) fun a hf=>mv hf rfl fun a hf=>?_; refine nk ?_
              refine R3 rfl<|mv hf rfl<|fun a hf=>ov hf rfl (aA.cZ rfl rfl (by omega)) fun a hf=>mv hf rfl fun a hf=>?_; refine O.nil<|aG<|?_; refine aS ⟨(i4+1,j4-1,l4),⟨hf.to ⟨rfl,rfl,rfl,rfl,rfl,(by first | rfl | exact vI (by omega)),(by first | rfl | exact vI (by omega)),trivial⟩,?_,?_,?_,?_,?_⟩,?_⟩
              · exact hS.eqM rfl
              · omega
              · exact hl4
              · exact hr4
              · rw [← he,Det.aEF (hsu.symm.trans (Det.rJ (by simp only [Det.bI,Det.ltP,Bool.not_eq_true',Bool.not_eq_false',decide_eq_true_eq,decide_eq_false_iff_not]; omega))) (hsn.symm.trans (Det.qj (by simp only [Det.bI,Det.ltP,Bool.not_eq_true',Bool.not_eq_false',decide_eq_true_eq,decide_eq_false_iff_not]; omega))) (by omega) (by omega) (by omega) (by omega),hsw]
              · dsimp only; omega
set_option maxHeartbeats 1000000 in
set_option maxRecDepth 4000 in
theorem aDa (N lo hi:Nat) (vX vP:Value) (l zs:List Int) (fW fH:Int) (w0:World) (hN:N≤100000) (hl:l.length=N) (hr:Det.InR zs.length l) (hP:aQ (hp w0) 1 vP zs.length (ints zs)) (hsep:∀ b,0<zs.length→vP.ownBlock=some b→¬ vX.ownBlock=some b) (hX:dZ (hp w0) 3 1 vX N (ints l)) (hab:lo+12<hi) (hb:hi≤N) :
    Ret Tryz.prog 121 #[vX,iV lo,iV hi,(fB 60 fW fH vP)] w0 (G:=List Int) (fun _=>.tuple #[]) (fun l' w=>St w0 w (oB vX) [] [sl 3 1 vX N (ints l')]∧(Go.Sort.PermIn lo hi l.toArray l'.toArray)∧l'.length=N∧Det.InR zs.length l'):=by
  refine aR (lv:=[vX,iV lo,iV hi,(fB 60 fW fH vP)]) Tryz.func121 rfl rfl rfl (fun a hf=>?_); replace hf:Fr a 67 [] [(0,vX),(1,iV lo),(2,iV hi),(3,(fB 60 fW fH vP))]:=hf; have hS:St w0 w0 (oB vX) [rI vP zs] [sl 3 1 vX N (ints l)]:=(St.own hX).lend hP hsep; refine W.seq ?_
  refine R4 rfl<|mv hf rfl<|fun a hf=>mv hf rfl fun a hf=>ov hf rfl (aA.cZ rfl rfl (by omega)) fun a hf=>mv hf rfl fun a hf=>?_; refine O.nil ?_; rw [show ((hi:Int)-(lo:Int))=(((hi-lo:Nat):Int)) from by omega] at hf; refine aF<|W.seq<|?_
  refine R2 rfl<|mv hf rfl<|fun a hf=>ov (v:=.bool (decide (((hi-lo:Nat):Int)≥(8:Int)))) hf rfl (aA.geq rfl rfl) fun a hf=>?_; refine nk ?_; refine W.bJ hf rfl (fun hc1=>?_) (fun hc1=>?_)
  · refine W.seq ?_
    refine R4 rfl<|mv hf rfl<|fun a hf=>ov hf rfl (aA.aDQ yo zQ rfl (by omega)) fun a hf=>?_; refine O.alloc (cs:=#[.int .u64 0]) hf hS rfl rfl wW rfl ?_; intro b_random2 w a hbb_random2 hS hf; refine ost 0 #[.int .u64 ((hi-lo:Nat):Int)] hf hS rfl rfl rfl wR rfl rfl rfl (bl rfl) rfl ?_; intro w hS; refine O.nil ?_; rw [show (((hi-lo:Nat):Int))=((hi-lo:Nat):Int) from by first | rfl | omega] at hS; refine aF<|W.seq<|?_
    refine R3 rfl<|mv hf rfl<|fun a hf=>?_; refine oc hf rfl aC6 (aEm (hi-lo) _ (by omega)) ?_; clear hf a; rintro _ w3 hS1 a hf; replace hS:=hS.cl hS1; refine mv hf rfl fun a hf=>?_; refine nk<|W.seq<|?_
    refine R7 rfl<|mv hf rfl<|fun a hf=>mv hf rfl fun a hf=>ov hf rfl (aA.uH (p':=hi-lo) (q':=4) rfl rfl (by omega) rfl (by omega) (by omega)) fun a hf=>ov hf rfl (aA.qG rfl rfl (by omega)) fun a hf=>ov hf rfl (aA.ak rfl rfl (by omega)) fun a hf=>ov hf rfl (aA.cZ rfl rfl (by omega)) fun a hf=>mv hf rfl fun a hf=>?_; refine O.nil ?_; rw [show (((lo:Int)+((((hi-lo)/4:Nat):Int)*2))-1)=(((lo+(hi-lo)/4*2-1:Nat):Int)) from by omega] at hf; refine aF ?_; replace hf:Fr a 67 [] [(0,_),(1,_),(8,_),(9,_),(10,_),(11,_)]:=hf.q rfl; refine W.block ?_
    refine W.loop (G:=(Nat) × (Nat) × (List Int)) (fun g a w=>match g with | (i,X,l1)=>Fr a 67 [] [(0,vX),(1,iV lo),(8,iV ((hi-lo:Nat):Int)),(9,(pp b_random2)),(10,.int .u64 ((1 <<< Go.Sort.bitsLen (hi-lo):Nat):Int)),(11,iV i)]∧St w0 w (oB vX) [rI vP zs] [pt b_random2 (.cells #[.int .u64 ((X:Nat):Int)] 130 (0,0)),sl 3 1 vX N (ints l1)]∧(lo+(hi-lo)/4*2-1≤i)∧(X<18446744073709551616)∧(l1.length=N)∧(Det.InR zs.length l1)∧(Go.Sort.PermIn lo hi l.toArray l1.toArray)) (fun g=>match g with | (i,X,l1)=>lo+(hi-lo)/4*2+2-i) ((lo+(hi-lo)/4*2-1),(hi-lo),l) ?_ ?_
    · refine ⟨hf.to ⟨rfl,rfl,rfl,rfl,rfl,(by first | rfl | exact vI (by omega)),trivial⟩,hS,?_,?_,?_,?_,?_⟩
      · omega
      · omega
      · exact hl
      · exact hr
      · exact Go.Sort.permIn_refl _ _ _
    clear hf hS a; rintro ⟨i,X,l1⟩ a w ⟨hf,hS,h0,hXl,hl1,hr1,hpm⟩; refine W.seq<|W.seq<|?_
    refine W.aY (l:=[0,1,2,3,4,5,6,7]) rfl<|mv hf rfl<|fun a hf=>?_; refine mv hf rfl fun a hf=>mv hf rfl fun a hf=>ov hf rfl (aA.uH (p':=hi-lo) (q':=4) rfl rfl (by omega) rfl (by omega) (by omega)) fun a hf=>ov hf rfl (aA.qG rfl rfl (by omega)) fun a hf=>ov hf rfl (aA.ak rfl rfl (by omega)) fun a hf=>ov hf rfl (aA.ak rfl rfl (by omega)) fun a hf=>ov (v:=.bool (decide (((i:Nat):Int)≤(((lo:Int)+((((hi-lo)/4:Nat):Int)*2))+1:Int)))) hf rfl (aA.leq rfl rfl) fun a hf=>?_; refine nk ?_; refine W.bJ hf rfl (fun hix=>?_) (fun hix=>?_)
    · refine W.skip ?_
      refine aF<|W.seq<|W.block<|W.seq<|?_
      refine R6 rfl ?_; have hpw:=uY (n:=hi-lo) (by omega); have hbl:=zP (x:=((Go.Sort.xorNextN X:Nat):Int)) (y:=((1 <<< Go.Sort.bitsLen (hi-lo):Nat)-1:Int)) (by omega); refine oc hf rfl aCG (aDj b_random2 X _ hXl (hS.p 0 rfl)) ?_; clear hf a; rintro _ w5 hS1 a hf; replace hS:=(hS.dA hS1 (i:=0) rfl (fun _ h=>h)).eqM (N:=[pt b_random2 (.cells #[.int .u64 ((Go.Sort.xorNextN X:Nat):Int)] 130 (0,0)),sl 3 1 vX N (ints l1)]) rfl; refine mv hf rfl fun a hf=>ov hf rfl (aA.aFM rfl rfl (by omega)) fun a hf=>ov hf rfl (aA.bitand rfl rfl) fun a hf=>ov hf rfl (aA.aEO aBv aCe rfl (by omega)) fun a hf=>mv hf rfl fun a hf=>?_; refine O.nil ?_; obtain ⟨o,ho1,ho2⟩:∃ o:Nat,bitand .u64 ((Go.Sort.xorNextN X:Nat):Int) ((1 <<< Go.Sort.bitsLen (hi-lo):Nat)-1:Int)=((o:Nat):Int)∧o<2*(hi-lo):=by
        obtain ⟨o,ho⟩:=Int.eq_ofNat_of_zero_le hbl.1; exact ⟨o,ho,by omega⟩
      rw [ho1] at hf; refine aF<|W.seq<|W.seq<|?_
      refine R3 rfl<|mv hf rfl<|fun a hf=>mv hf rfl fun a hf=>ov (v:=.bool (decide (((o:Nat):Int)≥(((hi-lo:Nat):Int):Int)))) hf rfl (aA.geq rfl rfl) fun a hf=>?_; refine nk ?_; refine W.bJ hf rfl (fun hoc=>?_) (fun hoc=>?_)
      ·
        refine R4 rfl<|mv hf rfl<|fun a hf=>mv hf rfl fun a hf=>ov hf rfl (aA.cZ rfl rfl (by omega)) fun a hf=>mv hf rfl fun a hf=>?_; refine O.nil ?_; rw [show (((o:Nat):Int)-((hi-lo:Nat):Int))=(((o-(hi-lo):Nat):Int)) from by omega] at hf; refine aF ?_
        have hf1:Fr a 67 [] []:=hf.to trivial; replace hf:Fr a 67 [] [(0,_),(1,_),(8,_),(9,_),(10,_),(11,_),(12,_)]:=hf.q rfl
        let LZ6473:List (Nat × Value):=[(0,vX),(1,iV lo),(8,iV ((hi-lo:Nat):Int)),(9,(pp b_random2)),(10,.int .u64 ((1 <<< Go.Sort.bitsLen (hi-lo):Nat):Int)),(11,iV i),(12,iV ((o-(hi-lo):Nat):Int))]
        refine W.dn (γ:=Unit) (L0:=LZ6473) (L1:=[]) () [17,19] [] [0,1,2,3,4,5,6,7,8,9,10,11,12,13,14,15,16,18] (fun i_=>match i_ with | 5=>[3,4] | 9=>[7,8] | 10=>[6,9] | 11=>[10] | 14=>[12,13] | 15=>[14] | 16=>[0,1] | 17=>[11,16] | 18=>[2,5] | 19=>[15,18] | _=>[]) (fun _=>[]) (fun i_=>match i_ with | 17=>[18,19] | _=>[]) (fun _=>[]) (fun i_=>match i_ with | 18=>1 | 19=>1 | _=>0) (fun i_=>match i_ with | 2=>1 | 3=>1 | 4=>1 | 5=>1 | 17=>1 | 18=>1 | 19=>2 | _=>0) (fun (g:Unit) j_=>match g,j_ with | _,0=>vX | _,1=>iV i | _,2=>vX | _,3=>iV lo | _,4=>iV ((o-(hi-lo):Nat):Int) | _,5=>iV ((lo:Int)+((o-(hi-lo):Nat):Int)) | _,6=>vX | _,7=>iV lo | _,8=>iV ((o-(hi-lo):Nat):Int) | _,9=>iV ((lo:Int)+((o-(hi-lo):Nat):Int)) | _,10=>ix vX (lo+(o-(hi-lo))) | _,11=>iV (l1.getD (lo+(o-(hi-lo))) 0) | _,12=>vX | _,13=>iV i | _,14=>ix vX i | _,15=>iV (l1.getD i 0) | _,16=>ix vX i | _,18=>ix vX (lo+(o-(hi-lo))) | _,_=>undef) (fun k_ (_:Nat→Bool) (g:Unit) w=>match k_,g with | 0,_=>St w0 w (oB vX) [rI vP zs] [pt b_random2 (.cells #[.int .u64 ((Go.Sort.xorNextN X:Nat):Int)] 130 (0,0)),sl 3 1 vX N (ints l1)] | 1,_=>St w0 w (oB vX) [rI vP zs] [pt b_random2 (.cells #[.int .u64 ((Go.Sort.xorNextN X:Nat):Int)] 130 (0,0)),sl 3 1 vX N (ints (l1.set i (l1.getD (lo+(o-(hi-lo))) 0)))] | _,_=>St w0 w (oB vX) [rI vP zs] [pt b_random2 (.cells #[.int .u64 ((Go.Sort.xorNextN X:Nat):Int)] 130 (0,0)),sl 3 1 vX N (ints ((l1.set i (l1.getD (lo+(o-(hi-lo))) 0)).set (lo+(o-(hi-lo))) (l1.getD i 0)))]) aV (by kernel_rfl) (by kernel_rfl) (by kernel_rfl) hf hf1 hS.drew ?_ ?_ trivial ?_
        · clear hf hf1 hS
          refine ⟨?_,?_,?_,?_,?_,?_,?_,?_,?_,?_,?_,?_,?_,?_,?_,?_,?_,?_,trivial⟩
          · exact qq fun _=>rfl
          · exact qq fun _=>rfl
          · exact qq fun _=>rfl
          · exact qq fun _=>rfl
          · exact qq fun _=>rfl
          · exact fun _ _ _ _ _ _ _ hD _ hf=>qv hf rfl (aA.ak rfl rfl (by omega)) hD
          · exact qq fun _=>rfl
          · exact qq fun _=>rfl
          · exact qq fun _=>rfl
          · exact fun _ _ _ _ _ _ _ hD _ hf=>qv hf rfl (aA.ak rfl rfl (by omega)) hD
          · exact s1 (fun _ _ _ _ hD _ hf=>qv hf rfl (aA.ixV (j:=(lo+(o-(hi-lo)))) (m:=(lo+(o-(hi-lo)))) aB aD rfl rfl (hD.slr (j:=1) rfl) (by omega) (by omega) (Nat.mul_one _)) hD) rfl
          · exact s1 (fun _ _ _ _ hD _ hf=>qv hf rfl (aA.ld1 aH rfl (hD.slr (j:=1) rfl) (aI (by omega))) hD) rfl
          · exact qq fun _=>rfl
          · exact qq fun _=>rfl
          · exact s1 (fun _ _ _ _ hD _ hf=>qv hf rfl (aA.ixV (j:=i) (m:=i) aB aD rfl rfl (hD.slr (j:=1) rfl) rfl (by omega) (Nat.mul_one _)) hD) rfl
          · exact s1 (fun _ _ _ _ hD _ hf=>qv hf rfl (aA.ld1 aH rfl (hD.slr (j:=1) rfl) (aI (by omega))) hD) rfl
          · exact s1 (fun _ _ _ _ hD _ hf=>qv hf rfl (aA.ixV (j:=i) (m:=i) aB aD rfl rfl (hD.slr (j:=1) rfl) rfl (by omega) (Nat.mul_one _)) hD) rfl
          · exact s1 (fun _ _ _ _ hD _ hf=>qv hf rfl (aA.ixV (j:=(lo+(o-(hi-lo)))) (m:=(lo+(o-(hi-lo)))) aB aD rfl rfl (hD.slr (j:=1) rfl) (by omega) (by omega) (Nat.mul_one _)) hD) rfl
        · clear hf hf1 hS
          refine ⟨?_,?_,trivial⟩
          · intro s_ g w _ hD a hf
            have hS:=hD; clear hD; refine O.bF (j:=1) (m:=i) (xs':=ints (l1.set i (l1.getD (lo+(o-(hi-lo))) 0))) (M':=[pt b_random2 (.cells #[.int .u64 ((Go.Sort.xorNextN X:Nat):Int)] 130 (0,0)),sl 3 1 vX N (ints (l1.set i (l1.getD (lo+(o-(hi-lo))) 0)))]) hf hS rfl rfl rfl aD rfl rfl rfl (by simp only [ai,List.length_set]; omega) ints_set rfl rfl ?_; intro w hS; exact nU hf rfl (fun _=>rfl) hS
          · intro s_ g w _ hD a hf
            have hS:=hD; clear hD; refine O.bF (j:=1) (m:=(lo+(o-(hi-lo)))) (xs':=ints ((l1.set i (l1.getD (lo+(o-(hi-lo))) 0)).set (lo+(o-(hi-lo))) (l1.getD i 0))) (M':=[pt b_random2 (.cells #[.int .u64 ((Go.Sort.xorNextN X:Nat):Int)] 130 (0,0)),sl 3 1 vX N (ints ((l1.set i (l1.getD (lo+(o-(hi-lo))) 0)).set (lo+(o-(hi-lo))) (l1.getD i 0)))]) hf hS rfl rfl rfl aD rfl rfl rfl (by simp only [ai,List.length_set]; omega) ints_set rfl rfl ?_; intro w hS; exact nU hf rfl (fun _=>rfl) hS
        clear hf hf1 hS; intro s_ g a w _ hf hD; have hS:=hD; clear hD; replace hf:Fr a 67 [] ((49,vX)::(50,iV i)::(51,vX)::(52,iV lo)::(53,iV ((o-(hi-lo):Nat):Int))::(54,iV ((lo:Int)+((o-(hi-lo):Nat):Int)))::(55,vX)::(56,iV lo)::(57,iV ((o-(hi-lo):Nat):Int))::(58,iV ((lo:Int)+((o-(hi-lo):Nat):Int)))::(59,ix vX (lo+(o-(hi-lo))))::(60,iV (l1.getD (lo+(o-(hi-lo))) 0))::(61,vX)::(62,iV i)::(63,ix vX i)::(64,iV (l1.getD i 0))::(65,ix vX i)::(66,ix vX (lo+(o-(hi-lo))))::LZ6473):=hf; obtain ⟨l2,hsw⟩:∃ q,Det.swL l1 i (lo+(o-(hi-lo)))=q:=⟨_,rfl⟩; have hl2:l2.length=N:=by rw [← hsw,Det.dW]; exact hl1
        have hr2:Det.InR zs.length l2:=by rw [← hsw]; exact hr1.sw (by omega) (by omega)
        replace hS:=hS.eqM (N:=[pt b_random2 (.cells #[.int .u64 ((Go.Sort.xorNextN X:Nat):Int)] 130 (0,0)),sl 3 1 vX N (ints l2)]) (by rw [← hsw]; rfl); have hpm2:Go.Sort.PermIn lo hi l.toArray l2.toArray:=Go.Sort.permIn_trans _ _ _ _ _ hpm (by rw [← hsw]; exact Det.xq (by omega) (by omega) (by omega) (by omega) (by omega)); refine aG<|aF<|?_
        refine R3 rfl<|mv hf rfl<|fun a hf=>ov hf rfl (aA.ak rfl rfl (by omega)) fun a hf=>mv hf rfl fun a hf=>?_; refine O.nil ?_; refine aS ⟨(i+1,(Go.Sort.xorNextN X),l2),⟨hf.to ⟨rfl,rfl,rfl,rfl,rfl,(by first | rfl | exact vI (by omega)),trivial⟩,?_,?_,?_,?_,?_,?_⟩,?_⟩
        · exact hS.eqM rfl
        · omega
        · exact Go.Sort.xorNextN_lt _ hXl
        · exact hl2
        · exact hr2
        · exact hpm2
        · dsimp only; omega
      · refine W.skip ?_
        refine aF ?_
        have hf1:Fr a 67 [] []:=hf.to trivial; replace hf:Fr a 67 [] [(0,_),(1,_),(8,_),(9,_),(10,_),(11,_),(12,_)]:=hf.q rfl
        let LZ6673:List (Nat × Value):=[(0,vX),(1,iV lo),(8,iV ((hi-lo:Nat):Int)),(9,(pp b_random2)),(10,.int .u64 ((1 <<< Go.Sort.bitsLen (hi-lo):Nat):Int)),(11,iV i),(12,iV o)]
        refine W.dn (γ:=Unit) (L0:=LZ6673) (L1:=[]) () [17,19] [] [0,1,2,3,4,5,6,7,8,9,10,11,12,13,14,15,16,18] (fun i_=>match i_ with | 5=>[3,4] | 9=>[7,8] | 10=>[6,9] | 11=>[10] | 14=>[12,13] | 15=>[14] | 16=>[0,1] | 17=>[11,16] | 18=>[2,5] | 19=>[15,18] | _=>[]) (fun _=>[]) (fun i_=>match i_ with | 17=>[18,19] | _=>[]) (fun _=>[]) (fun i_=>match i_ with | 18=>1 | 19=>1 | _=>0) (fun i_=>match i_ with | 2=>1 | 3=>1 | 4=>1 | 5=>1 | 17=>1 | 18=>1 | 19=>2 | _=>0) (fun (g:Unit) j_=>match g,j_ with | _,0=>vX | _,1=>iV i | _,2=>vX | _,3=>iV lo | _,4=>iV o | _,5=>iV ((lo:Int)+((o:Nat):Int)) | _,6=>vX | _,7=>iV lo | _,8=>iV o | _,9=>iV ((lo:Int)+((o:Nat):Int)) | _,10=>ix vX (lo+o) | _,11=>iV (l1.getD (lo+o) 0) | _,12=>vX | _,13=>iV i | _,14=>ix vX i | _,15=>iV (l1.getD i 0) | _,16=>ix vX i | _,18=>ix vX (lo+o) | _,_=>undef) (fun k_ (_:Nat→Bool) (g:Unit) w=>match k_,g with | 0,_=>St w0 w (oB vX) [rI vP zs] [pt b_random2 (.cells #[.int .u64 ((Go.Sort.xorNextN X:Nat):Int)] 130 (0,0)),sl 3 1 vX N (ints l1)] | 1,_=>St w0 w (oB vX) [rI vP zs] [pt b_random2 (.cells #[.int .u64 ((Go.Sort.xorNextN X:Nat):Int)] 130 (0,0)),sl 3 1 vX N (ints (l1.set i (l1.getD (lo+o) 0)))] | _,_=>St w0 w (oB vX) [rI vP zs] [pt b_random2 (.cells #[.int .u64 ((Go.Sort.xorNextN X:Nat):Int)] 130 (0,0)),sl 3 1 vX N (ints ((l1.set i (l1.getD (lo+o) 0)).set (lo+o) (l1.getD i 0)))]) aV (by kernel_rfl) (by kernel_rfl) (by kernel_rfl) hf hf1 hS.drew ?_ ?_ trivial ?_
        · clear hf hf1 hS
          refine ⟨?_,?_,?_,?_,?_,?_,?_,?_,?_,?_,?_,?_,?_,?_,?_,?_,?_,?_,trivial⟩
          · exact qq fun _=>rfl
          · exact qq fun _=>rfl
          · exact qq fun _=>rfl
          · exact qq fun _=>rfl
          · exact qq fun _=>rfl
          · exact fun _ _ _ _ _ _ _ hD _ hf=>qv hf rfl (aA.ak rfl rfl (by omega)) hD
          · exact qq fun _=>rfl
          · exact qq fun _=>rfl
          · exact qq fun _=>rfl
          · exact fun _ _ _ _ _ _ _ hD _ hf=>qv hf rfl (aA.ak rfl rfl (by omega)) hD
          · exact s1 (fun _ _ _ _ hD _ hf=>qv hf rfl (aA.ixV (j:=(lo+o)) (m:=(lo+o)) aB aD rfl rfl (hD.slr (j:=1) rfl) (by omega) (by omega) (Nat.mul_one _)) hD) rfl
          · exact s1 (fun _ _ _ _ hD _ hf=>qv hf rfl (aA.ld1 aH rfl (hD.slr (j:=1) rfl) (aI (by omega))) hD) rfl
          · exact qq fun _=>rfl
          · exact qq fun _=>rfl
          · exact s1 (fun _ _ _ _ hD _ hf=>qv hf rfl (aA.ixV (j:=i) (m:=i) aB aD rfl rfl (hD.slr (j:=1) rfl) rfl (by omega) (Nat.mul_one _)) hD) rfl
          · exact s1 (fun _ _ _ _ hD _ hf=>qv hf rfl (aA.ld1 aH rfl (hD.slr (j:=1) rfl) (aI (by omega))) hD) rfl
          · exact s1 (fun _ _ _ _ hD _ hf=>qv hf rfl (aA.ixV (j:=i) (m:=i) aB aD rfl rfl (hD.slr (j:=1) rfl) rfl (by omega) (Nat.mul_one _)) hD) rfl
          · exact s1 (fun _ _ _ _ hD _ hf=>qv hf rfl (aA.ixV (j:=(lo+o)) (m:=(lo+o)) aB aD rfl rfl (hD.slr (j:=1) rfl) (by omega) (by omega) (Nat.mul_one _)) hD) rfl
        · clear hf hf1 hS
          refine ⟨?_,?_,trivial⟩
          · intro s_ g w _ hD a hf
            have hS:=hD; clear hD; refine O.bF (j:=1) (m:=i) (xs':=ints (l1.set i (l1.getD (lo+o) 0))) (M':=[pt b_random2 (.cells #[.int .u64 ((Go.Sort.xorNextN X:Nat):Int)] 130 (0,0)),sl 3 1 vX N (ints (l1.set i (l1.getD (lo+o) 0)))]) hf hS rfl rfl rfl aD rfl rfl rfl (by simp only [ai,List.length_set]; omega) ints_set rfl rfl ?_; intro w hS; exact nU hf rfl (fun _=>rfl) hS
          · intro s_ g w _ hD a hf
            have hS:=hD; clear hD; refine O.bF (j:=1) (m:=(lo+o)) (xs':=ints ((l1.set i (l1.getD (lo+o) 0)).set (lo+o) (l1.getD i 0))) (M':=[pt b_random2 (.cells #[.int .u64 ((Go.Sort.xorNextN X:Nat):Int)] 130 (0,0)),sl 3 1 vX N (ints ((l1.set i (l1.getD (lo+o) 0)).set (lo+o) (l1.getD i 0)))]) hf hS rfl rfl rfl aD rfl rfl rfl (by simp only [ai,List.length_set]; omega) ints_set rfl rfl ?_; intro w hS; exact nU hf rfl (fun _=>rfl) hS
        clear hf hf1 hS; intro s_ g a w _ hf hD; have hS:=hD; clear hD; replace hf:Fr a 67 [] ((49,vX)::(50,iV i)::(51,vX)::(52,iV lo)::(53,iV o)::(54,iV ((lo:Int)+((o:Nat):Int)))::(55,vX)::(56,iV lo)::(57,iV o)::(58,iV ((lo:Int)+((o:Nat):Int)))::(59,ix vX (lo+o))::(60,iV (l1.getD (lo+o) 0))::(61,vX)::(62,iV i)::(63,ix vX i)::(64,iV (l1.getD i 0))::(65,ix vX i)::(66,ix vX (lo+o))::LZ6673):=hf; obtain ⟨l2,hsw⟩:∃ q,Det.swL l1 i (lo+o)=q:=⟨_,rfl⟩; have hl2:l2.length=N:=by rw [← hsw,Det.dW]; exact hl1
        have hr2:Det.InR zs.length l2:=by rw [← hsw]; exact hr1.sw (by omega) (by omega)
        replace hS:=hS.eqM (N:=[pt b_random2 (.cells #[.int .u64 ((Go.Sort.xorNextN X:Nat):Int)] 130 (0,0)),sl 3 1 vX N (ints l2)]) (by rw [← hsw]; rfl); have hpm2:Go.Sort.PermIn lo hi l.toArray l2.toArray:=Go.Sort.permIn_trans _ _ _ _ _ hpm (by rw [← hsw]; exact Det.xq (by omega) (by omega) (by omega) (by omega) (by omega)); refine aG<|aF<|?_
        refine R3 rfl<|mv hf rfl<|fun a hf=>ov hf rfl (aA.ak rfl rfl (by omega)) fun a hf=>mv hf rfl fun a hf=>?_; refine O.nil ?_; refine aS ⟨(i+1,(Go.Sort.xorNextN X),l2),⟨hf.to ⟨rfl,rfl,rfl,rfl,rfl,(by first | rfl | exact vI (by omega)),trivial⟩,?_,?_,?_,?_,?_,?_⟩,?_⟩
        · exact hS.eqM rfl
        · omega
        · exact Go.Sort.xorNextN_lt _ hXl
        · exact hl2
        · exact hr2
        · exact hpm2
        · dsimp only; omega
    · refine W.exit ?_
      refine aC<|aC<|bD<|eP<|iY hf rfl <|?_; replace hS:=hS.fr 1; refine ⟨l1,rfl,(hS.sub (List.Sublist.cons_cons _ (List.nil_sublist _))).noB,?_,hl1,hr1⟩; exact hpm
  · exfalso; omega
def aER (n N:Nat) (vX vP:Value) (zs:List Int) (fW fH:Int):Prop:=∀ (lo hi lim:Nat) (l:List Int) (w0:World),hi-lo≤n→lo≤hi→hi≤N→lim≤1000→l.length=N→Det.InR zs.length l→Go.Sort.Below (Det.ltP zs) lo hi l.toArray→aQ (hp w0) 1 vP zs.length (ints zs)→dZ (hp w0) 3 1 vX N (ints l) →
    Ret Tryz.prog 113 #[vX,iV lo,iV hi,iV lim,(fB 60 fW fH vP)] w0 (G:=List Int) (fun _=>.tuple #[])
      (fun l' w=>St w0 w (oB vX) [] [sl 3 1 vX N (ints l')]∧(Go.Sort.PermIn lo hi l.toArray l'.toArray∧Go.Sort.SortedIn (Det.ltP zs) lo hi l'.toArray)∧l'.length=N∧Det.InR zs.length l')
set_option maxHeartbeats 1000000 in
set_option maxRecDepth 4000 in
theorem aD9 (N lo hi lim:Nat) (vX vP:Value) (l zs:List Int) (fW fH:Int) (w0:World) (hN:N≤100000) (hl:l.length=N) (hr:Det.InR zs.length l) (hP:aQ (hp w0) 1 vP zs.length (ints zs)) (hsep:∀ b,0<zs.length→vP.ownBlock=some b→¬ vX.ownBlock=some b) (hX:dZ (hp w0) 3 1 vX N (ints l)) (ih:∀ n,n<hi-lo→aER n N vX vP zs fW fH) (hab:lo≤hi) (hb:hi≤N) (hlim:lim≤1000) (hbl:Go.Sort.Below (Det.ltP zs) lo hi l.toArray) :
    Ret Tryz.prog 113 #[vX,iV lo,iV hi,iV lim,(fB 60 fW fH vP)] w0 (G:=List Int) (fun _=>.tuple #[]) (fun l' w=>St w0 w (oB vX) [] [sl 3 1 vX N (ints l')]∧(Go.Sort.PermIn lo hi l.toArray l'.toArray∧Go.Sort.SortedIn (Det.ltP zs) lo hi l'.toArray)∧l'.length=N∧Det.InR zs.length l'):=by
  refine aR (lv:=[vX,iV lo,iV hi,iV lim,(fB 60 fW fH vP)]) Tryz.func113 rfl rfl rfl (fun a hf=>?_); replace hf:Fr a 148 [] [(0,vX),(1,iV lo),(2,iV hi),(3,iV lim),(4,(fB 60 fW fH vP))]:=hf; have hS:St w0 w0 (oB vX) [rI vP zs] [sl 3 1 vX N (ints l)]:=(St.own hX).lend hP hsep; refine W.seq ?_
  refine R1 rfl<|mv hf rfl<|fun a hf=>?_; refine nk<|W.seq<|?_
  refine R1 rfl<|mv hf rfl<|fun a hf=>?_; refine nk<|W.block<|?_
  refine W.loop (G:=(Nat) × (Nat) × (Nat) × (Bool) × (Bool) × (List Int)) (fun g a w=>match g with | (lo1,hi1,lim1,wb,wp,l1)=>Fr a 148 [] [(0,vX),(1,iV lo1),(2,iV hi1),(3,iV lim1),(4,(fB 60 fW fH vP)),(10,.bool wb),(11,.bool wp)]∧St w0 w (oB vX) [rI vP zs] [sl 3 1 vX N (ints l1)]∧(lo≤lo1∧lo1≤hi1∧hi1≤hi)∧(lim1≤1000)∧(l1.length=N)∧(Det.InR zs.length l1)∧(Go.Sort.Below (Det.ltP zs) lo1 hi1 l1.toArray)∧(∀ R:Array Int,Go.Sort.PermIn lo1 hi1 l1.toArray R→Go.Sort.SortedIn (Det.ltP zs) lo1 hi1 R→Go.Sort.PermIn lo hi l.toArray R∧Go.Sort.SortedIn (Det.ltP zs) lo hi R)) (fun g=>match g with | (lo1,hi1,lim1,wb,wp,l1)=>hi1-lo1) (lo,hi,lim,true,true,l) ?_ ?_
  · refine ⟨hf.to ⟨rfl,(by first | rfl | exact vI (by omega)),(by first | rfl | exact vI (by omega)),(by first | rfl | exact vI (by omega)),rfl,(by first | rfl | exact vI (by omega)),(by first | rfl | exact vI (by omega)),trivial⟩,hS,?_,?_,?_,?_,?_,?_⟩
    · omega
    · omega
    · exact hl
    · exact hr
    · exact hbl
    · exact fun R h1 h2=>⟨h1,h2⟩
  clear hf hS a; rintro ⟨lo1,hi1,lim1,wb,wp,l1⟩ a w ⟨hf,hS,h0,hlm,hl1,hr1,hbw,hk⟩; refine W.block<|W.seq<|?_
  refine R4 rfl<|mv hf rfl<|fun a hf=>mv hf rfl fun a hf=>ov hf rfl (aA.cZ rfl rfl (by omega)) fun a hf=>mv hf rfl fun a hf=>?_; refine nk<|W.seq<|W.seq<|?_
  refine R2 rfl<|mv hf rfl<|fun a hf=>ov (v:=.bool (decide ((((hi1:Nat):Int)-((lo1:Nat):Int))≤(12:Int)))) hf rfl (aA.leq rfl rfl) fun a hf=>?_; refine nk ?_; refine W.bJ hf rfl (fun hsm=>?_) (fun hsm=>?_)
  · refine W.seq ?_
    refine R5 rfl<|mv hf rfl<|fun a hf=>mv hf rfl fun a hf=>mv hf rfl fun a hf=>mv hf rfl fun a hf=>?_; refine oc hf rfl aBK (aDX N lo1 hi1 vX vP l1 zs fW fH _ hN hl1 hr1 (hS.aL (j:=0) rfl) hsep (hS.iJ (j:=0) rfl) (by omega) (by omega)) ?_; clear hf a; rintro l2 w2 ⟨hS1,hsq,hl2,hr2⟩ a hf; replace hS:=(hS.dA hS1 (i:=0) rfl (fun _ h=>h)).eqM (N:=[sl 3 1 vX N (ints l2)]) rfl; refine O.nil ?_; have hso1:=Go.Sort.insertionSort_holds (Det.uJ zs) l1.toArray lo1 hi1 (by omega) (by simp; omega); rw [hsq] at hso1; refine aF<|W.ret<|aK<|aW<|aK<|aW<|iY hf rfl <|?_; refine ⟨l2,rfl,(hS.sub (List.Sublist.cons_cons _ (List.nil_sublist _))).noB,?_,hl2,hr2⟩; exact hk _ hso1.1 hso1.2
  · refine W.skip ?_
    refine aF<|W.seq<|W.seq<|?_
    refine R2 rfl<|mv hf rfl<|fun a hf=>ov (v:=.bool (decide (((lim1:Nat):Int)=(0:Int)))) hf rfl (aA.eql rfl rfl) fun a hf=>?_; refine nk ?_; refine W.bJ hf rfl (fun hl0=>?_) (fun hl0=>?_)
    · refine W.seq ?_
      refine R5 rfl<|mv hf rfl<|fun a hf=>mv hf rfl fun a hf=>mv hf rfl fun a hf=>mv hf rfl fun a hf=>?_; refine oc hf rfl aAh (aCH N lo1 hi1 vX vP l1 zs fW fH _ hN hl1 hr1 (hS.aL (j:=0) rfl) hsep (hS.iJ (j:=0) rfl) (by omega) (by omega)) ?_; clear hf a; rintro l2 w4 ⟨hS1,hsq,hl2,hr2⟩ a hf; replace hS:=(hS.dA hS1 (i:=0) rfl (fun _ h=>h)).eqM (N:=[sl 3 1 vX N (ints l2)]) rfl; refine O.nil ?_; have hso1:=Go.Sort.heapSort_holds (Det.uJ zs) l1.toArray lo1 hi1 (by omega) (by simp; omega); rw [hsq] at hso1; refine aF<|W.ret<|aK<|aW<|aK<|aW<|iY hf rfl <|?_; refine ⟨l2,rfl,(hS.sub (List.Sublist.cons_cons _ (List.nil_sublist _))).noB,?_,hl2,hr2⟩; exact hk _ hso1.1 hso1.2
    · refine W.skip ?_
      refine aF<|W.seq<|W.seq<|?_
      refine R2 rfl<|mv hf rfl<|fun a hf=>ov (v:=.bool (!wb)) hf rfl (aA.not rfl) fun a hf=>?_; refine nk ?_
      refine W.aBz (fun a w=>∃ g_:(Nat) × (List Int),match g_ with | (lim2,l2)=>Fr a 148 [] [(0,vX),(1,iV lo1),(2,iV hi1),(3,iV lim2),(4,(fB 60 fW fH vP)),(10,.bool wb),(11,.bool wp),(12,iV (((hi1:Nat):Int)-((lo1:Nat):Int)))]∧St w0 w (oB vX) [rI vP zs] [sl 3 1 vX N (ints l2)]∧(lim2≤1000)∧(l2.length=N)∧(Det.InR zs.length l2)∧(Go.Sort.PermIn lo1 hi1 l1.toArray l2.toArray)) ?_ ?_
      · refine W.if_ hf rfl (fun hwb=>?_) (fun hwb=>?_)
        · have hwbb:=hwb
          try simp only [bsm] at hwb
          refine W.seq ?_
          refine R5 rfl<|mv hf rfl<|fun a hf=>mv hf rfl fun a hf=>mv hf rfl fun a hf=>mv hf rfl fun a hf=>?_; refine oc hf rfl aA2 (aDa N lo1 hi1 vX vP l1 zs fW fH _ hN hl1 hr1 (hS.aL (j:=0) rfl) hsep (hS.iJ (j:=0) rfl) (by omega) (by omega)) ?_; clear hf a; rintro l2 w6 ⟨hS1,hbk,hl2,hr2⟩ a hf; replace hS:=(hS.dA hS1 (i:=0) rfl (fun _ h=>h)).eqM (N:=[sl 3 1 vX N (ints l2)]) rfl; refine nk ?_
          refine R3 rfl<|mv hf rfl<|fun a hf=>ov hf rfl (aA.cZ rfl rfl (by omega)) fun a hf=>mv hf rfl fun a hf=>?_; refine O.nil ?_; refine ⟨((lim1-1),l2),hf.to ⟨rfl,rfl,rfl,(by first | rfl | exact vI (by omega)),rfl,rfl,rfl,rfl,trivial⟩,hS.eqM rfl,?_,?_,?_,?_⟩
          · omega
          · exact hl2
          · exact hr2
          · exact hbk
        · have hwbb:=hwb
          try simp only [bsm] at hwb
          refine W.skip ?_; refine ⟨(lim1,l1),hf.to ⟨rfl,rfl,rfl,(by first | rfl | exact vI (by omega)),rfl,rfl,rfl,rfl,trivial⟩,hS.eqM rfl,?_,?_,?_,?_⟩
          · omega
          · exact hl1
          · exact hr1
          · exact Go.Sort.permIn_refl _ _ _
      clear hf hS a; rintro a w ⟨⟨lim2,l2⟩,hf,hS,hlm2,hl2,hr2,hpm2⟩; refine W.seq ?_
      refine W.aY (l:=[0,1,2,3,4,5,6,7,8,9]) rfl<|mv hf rfl<|fun a hf=>?_; refine mv hf rfl fun a hf=>mv hf rfl fun a hf=>mv hf rfl fun a hf=>?_; refine oc hf rfl aAc (aDi N lo1 hi1 vX vP l2 zs fW fH _ hN hl2 hr2 (hS.aL (j:=0) rfl) (hS.slr (j:=0) rfl) (by omega) (by omega)) ?_; clear hf a; rintro ⟨p1,h1⟩ w7 ⟨hS1,hp1,hp2,hh1⟩ a hf; try dsimp only at hS1 hf; replace hS:=hS.cl hS1; dsimp only at hp1 hp2 hh1 hf; refine mv hf rfl fun a hf=>ov hf rfl (aA.extract rfl rfl) fun a hf=>ov hf rfl (aA.extract rfl rfl) fun a hf=>mv hf rfl fun a hf=>mv hf rfl fun a hf=>?_; refine nk<|W.seq<|W.seq<|?_
      refine R2 rfl<|mv hf rfl<|fun a hf=>ov (v:=.bool (decide (((h1:Nat):Int)=(2:Int)))) hf rfl (aA.eql rfl rfl) fun a hf=>?_; refine nk ?_
      refine W.aBz (fun a w=>∃ g_:(Nat) × (Nat) × (List Int),match g_ with | (p2,h2,l3)=>Fr a 148 [] [(0,vX),(1,iV lo1),(2,iV hi1),(3,iV lim2),(4,(fB 60 fW fH vP)),(10,.bool wb),(11,.bool wp),(12,iV (((hi1:Nat):Int)-((lo1:Nat):Int))),(13,iV p2),(14,iV h2)]∧St w0 w (oB vX) [rI vP zs] [sl 3 1 vX N (ints l3)]∧(lo1≤p2)∧(p2<hi1)∧(l3.length=N)∧(Det.InR zs.length l3)∧(Go.Sort.PermIn lo1 hi1 l1.toArray l3.toArray)) ?_ ?_
      · refine W.bJ hf rfl (fun hdc=>?_) (fun hdc=>?_)
        · refine W.seq ?_
          refine R5 rfl<|mv hf rfl<|fun a hf=>mv hf rfl fun a hf=>mv hf rfl fun a hf=>mv hf rfl fun a hf=>?_; refine oc hf rfl aA8 (aDy N lo1 hi1 vX vP l2 zs fW fH _ hN hl2 hr2 (hS.aL (j:=0) rfl) hsep (hS.iJ (j:=0) rfl) (by omega) (by omega)) ?_; clear hf a; rintro l3 w9 ⟨hS1,hrv,hl3,hr3⟩ a hf; replace hS:=(hS.dA hS1 (i:=0) rfl (fun _ h=>h)).eqM (N:=[sl 3 1 vX N (ints l3)]) rfl; refine nk<|W.seq<|?_
          refine R7 rfl<|mv hf rfl<|fun a hf=>ov hf rfl (aA.cZ rfl rfl (by omega)) fun a hf=>mv hf rfl fun a hf=>mv hf rfl fun a hf=>ov hf rfl (aA.cZ rfl rfl (by omega)) fun a hf=>ov hf rfl (aA.cZ rfl rfl (by omega)) fun a hf=>mv hf rfl fun a hf=>?_; refine nk ?_
          refine R1 rfl<|mv hf rfl<|fun a hf=>?_; refine O.nil ?_; refine ⟨((hi1-1-(p1-lo1)),1,l3),hf.to ⟨rfl,rfl,rfl,rfl,rfl,rfl,rfl,rfl,(by first | rfl | exact vI (by omega)),(by first | rfl | exact vI (by omega)),trivial⟩,hS.eqM rfl,?_,?_,?_,?_,?_⟩
          · omega
          · omega
          · exact hl3
          · exact hr3
          · refine Go.Sort.permIn_trans _ _ _ _ _ hpm2 ?_
            rw [← hrv]; exact Go.Sort.reverseRange_holds _ _ _ (by omega) (by simp; omega)
        · refine W.skip ?_
          refine ⟨(p1,h1,l2),hf.to ⟨rfl,rfl,rfl,rfl,rfl,rfl,rfl,rfl,(by first | rfl | exact vI (by omega)),(by first | rfl | exact vI (by omega)),trivial⟩,hS.eqM rfl,?_,?_,?_,?_,?_⟩
          · omega
          · omega
          · exact hl2
          · exact hr2
          · exact hpm2
      clear hf hS a; rintro a w ⟨⟨p2,h2,l3⟩,hf,hS,hp3,hp4,hl3,hr3,hpm3⟩; refine W.seq<|W.seq<|?_
      refine W.aY (l:=[0,1,2,3,4,5,6,7]) rfl<|mv hf rfl<|fun a hf=>?_; refine mv hf rfl fun a hf=>?_
      refine O.dV (l₁:=[2,3]) (l₂:=_) (fun a w=>Fr a 148 [] [(0,vX),(1,iV lo1),(2,iV hi1),(3,iV lim2),(4,(fB 60 fW fH vP)),(10,.bool wb),(11,.bool wp),(12,iV (((hi1:Nat):Int)-((lo1:Nat):Int))),(13,iV p2),(14,iV h2),(71,.bool (wb&&wp))]∧St w0 w (oB vX) [rI vP zs] [sl 3 1 vX N (ints l3)]) rfl ?_ ?_
      · rcases Bool.eq_false_or_eq_true (wb) with hb10 | hb10
        · have hb10p:=hb10
          try simp only [bsm] at hb10p
          refine og (v:=.bool wp) hf rfl hb10 (aA.move rfl) fun a hf=>?_; refine ov (v:=.bool (wb&&wp)) hf rfl (aA.pick rfl rfl rfl (by rw [hb10]; rfl)) fun a hf=>?_; exact O.nil ⟨rfl,hf.q rfl,hS⟩
        · have hb10p:=hb10
          try simp only [bsm] at hb10p
          refine sk hf rfl hb10 fun a hf=>?_; refine ov (v:=.bool (wb&&wp)) hf rfl (aA.pick rfl rfl rfl (by rw [hb10]; rfl)) fun a hf=>?_; exact O.nil ⟨rfl,hf.q rfl,hS⟩
      clear hf hS a; rintro a w ⟨hf,hS⟩; refine mv hf rfl fun a hf=>?_
      refine O.dV (l₁:=[5,6,7]) (l₂:=_) (fun a w=>Fr a 148 [] [(0,vX),(1,iV lo1),(2,iV hi1),(3,iV lim2),(4,(fB 60 fW fH vP)),(10,.bool wb),(11,.bool wp),(12,iV (((hi1:Nat):Int)-((lo1:Nat):Int))),(13,iV p2),(14,iV h2),(75,.bool ((wb&&wp)&&(decide (((h2:Nat):Int)=(1:Int)))))]∧St w0 w (oB vX) [rI vP zs] [sl 3 1 vX N (ints l3)]) rfl ?_ ?_
      · rcases Bool.eq_false_or_eq_true (wb&&wp) with hb11 | hb11
        · have hb11p:=hb11
          try simp only [bsm] at hb11p
          refine og (v:=iV h2) hf rfl hb11 (aA.move rfl) fun a hf=>og (v:=.bool (decide (((h2:Nat):Int)=(1:Int)))) hf rfl hb11 (aA.eql rfl rfl) fun a hf=>?_; refine ov (v:=.bool ((wb&&wp)&&(decide (((h2:Nat):Int)=(1:Int))))) hf rfl (aA.pick rfl rfl rfl (by rw [hb11]; rfl)) fun a hf=>?_; exact O.nil ⟨rfl,hf.q rfl,hS⟩
        · have hb11p:=hb11
          try simp only [bsm] at hb11p
          refine sk hf rfl hb11 fun a hf=>sk hf rfl hb11 fun a hf=>?_; refine ov (v:=.bool ((wb&&wp)&&(decide (((h2:Nat):Int)=(1:Int))))) hf rfl (aA.pick rfl rfl rfl (by rw [hb11]; rfl)) fun a hf=>?_; exact O.nil ⟨rfl,hf.q rfl,hS⟩
      clear hf hS a; rintro a w ⟨hf,hS⟩; refine nk ?_
      refine W.aBz (fun a w=>∃ g_:(List Int),match g_ with | l4=>Fr a 148 [] [(0,vX),(1,iV lo1),(2,iV hi1),(3,iV lim2),(4,(fB 60 fW fH vP)),(10,.bool wb),(11,.bool wp),(12,iV (((hi1:Nat):Int)-((lo1:Nat):Int))),(13,iV p2),(14,iV h2)]∧St w0 w (oB vX) [rI vP zs] [sl 3 1 vX N (ints l4)]∧(l4.length=N)∧(Det.InR zs.length l4)∧(Go.Sort.PermIn lo1 hi1 l1.toArray l4.toArray)) ?_ ?_
      · refine W.if_ hf rfl (fun hpi=>?_) (fun hpi=>?_)
        · have hpib:=hpi
          try simp only [bsm] at hpi
          refine W.seq ?_
          refine R5 rfl<|mv hf rfl<|fun a hf=>mv hf rfl fun a hf=>mv hf rfl fun a hf=>mv hf rfl fun a hf=>?_; refine oc hf rfl aBq (aDA N lo1 hi1 vX vP l3 zs fW fH _ hN hl3 hr3 (hS.aL (j:=0) rfl) hsep (hS.iJ (j:=0) rfl) (by omega) (by omega)) ?_; clear hf a; rintro ⟨l5,ok⟩ w13 ⟨hS1,hpa,hl5,hr5⟩ a hf; try dsimp only at hS1 hf; replace hS:=(hS.dA hS1 (i:=0) rfl (fun _ h=>h)).eqM (N:=[sl 3 1 vX N (ints l5)]) rfl; dsimp only at hpa hl5 hr5 hf hS; have hps:=Go.Sort.partialInsertionSort_holds (Det.uJ zs) l3.toArray lo1 hi1 (by omega) (by simp; omega) (Go.Sort.Below.permA Go.Sort.permIn_all (by simp; omega) hbw hpm3); rw [hpa] at hps; dsimp only at hps; refine nk ?_; refine W.if_ hf rfl (fun hok=>?_) (fun hok=>?_)
          · have hokb:=hok
            try simp only [bsm] at hok
            refine W.ret<|aK<|aW<|aK<|aW<|iY hf rfl <|?_; refine ⟨l5,rfl,(hS.sub (List.Sublist.cons_cons _ (List.nil_sublist _))).noB,?_,hl5,hr5⟩; exact hk _ (Go.Sort.permIn_trans _ _ _ _ _ hpm3 hps.1) (hps.2 hok)
          · have hokb:=hok
            try simp only [bsm] at hok
            refine W.skip ?_; refine ⟨l5,hf.q rfl,hS.eqM rfl,?_,?_,?_⟩
            · exact hl5
            · exact hr5
            · exact Go.Sort.permIn_trans _ _ _ _ _ hpm3 hps.1
        · have hpib:=hpi
          try simp only [bsm] at hpi
          refine W.skip ?_; refine ⟨l3,hf.q rfl,hS.eqM rfl,?_,?_,?_⟩
          · exact hl3
          · exact hr3
          · exact hpm3
      clear hf hS a; rintro a w ⟨l4,hf,hS,hl4,hr4,hpm4⟩; have hbw4:=Go.Sort.Below.permA (lt:=Det.ltP zs) Go.Sort.permIn_all (by simp; omega) hbw hpm4; refine W.seq<|W.seq<|?_
      refine W.dY (fun w=>St w0 w (oB vX) [rI vP zs] [sl 3 1 vX N (ints l4)]) aV rfl (by kernel_rfl) rfl hS.drew ?_; clear hS; refine q0 hf rfl rfl fun a hf=>OQ.val (v:=.bool (decide (((lo1:Nat):Int)>(0:Int)))) hf rfl (fun w hS=>aA.gtr rfl rfl) fun a hf=>q0 hf rfl rfl fun a hf=>?_
      refine OQ.ji (K':=fun a=>Fr a 148 [] [(0,vX),(1,iV lo1),(2,iV hi1),(3,iV lim2),(4,(fB 60 fW fH vP)),(10,.bool wb),(11,.bool wp),(12,iV (((hi1:Nat):Int)-((lo1:Nat):Int))),(13,iV p2),(14,iV h2),(97,.bool ((decide (((lo1:Nat):Int)>(0:Int)))&&(!(decide ((Det.cfP zs (l4.getD (lo1-1) 0) (l4.getD p2 0))<(0:Int))))))]) 14 ?_ ?_
      · rcases Bool.eq_false_or_eq_true (decide (((lo1:Nat):Int)>(0:Int))) with hb15 | hb15
        · have hb15p:=of_decide_eq_true hb15
          refine gm hf rfl rfl hb15 rfl rfl fun a hf=>gm hf rfl rfl hb15 rfl rfl fun a hf=>gm hf rfl rfl hb15 rfl rfl fun a hf=>OQ.gval (v:=iV (((lo1:Nat):Int)-1)) hf rfl rfl hb15 rfl (fun w hS=>aA.cZ rfl rfl (by omega)) fun a hf=>OQ.gval (v:=ix vX (lo1-1)) hf rfl rfl hb15 rfl (fun w hS=>aA.ixV (j:=(lo1-1)) (m:=(lo1-1)) aB aD rfl rfl (hS.slr (j:=0) rfl) (by omega) (by omega) (Nat.mul_one _)) fun a hf=>OQ.gval (v:=iV (l4.getD (lo1-1) 0)) hf rfl rfl hb15 rfl (fun w hS=>aA.ld1 aH rfl (hS.slr (j:=0) rfl) (aI (by omega))) fun a hf=>gm hf rfl rfl hb15 rfl rfl fun a hf=>gm hf rfl rfl hb15 rfl rfl fun a hf=>OQ.gval (v:=ix vX p2) hf rfl rfl hb15 rfl (fun w hS=>aA.ixV (j:=p2) (m:=p2) aB aD rfl rfl (hS.slr (j:=0) rfl) rfl (by omega) (Nat.mul_one _)) fun a hf=>OQ.gval (v:=iV (l4.getD p2 0)) hf rfl rfl hb15 rfl (fun w hS=>aA.ld1 aH rfl (hS.slr (j:=0) rfl) (aI (by omega))) fun a hf=>?_; refine OQ.gV (v:=iV (Det.cfP zs (l4.getD (lo1-1) 0) (l4.getD p2 0))) hf rfl rfl hb15 rfl (fun w hS=>dS.call (av:=#[(fG fW fH vP),iV (l4.getD (lo1-1) 0),iV (l4.getD p2 0)]) dX rfl rfl rfl) (fun w hS=>au fW fH (l4.getD (lo1-1) 0) (l4.getD p2 0) vP zs _ (hr4.at (by omega)) (hr4.at (by omega)) (hS.aL (j:=0) rfl)) fun a hf=>OQ.gval (v:=.bool (decide ((Det.cfP zs (l4.getD (lo1-1) 0) (l4.getD p2 0))<(0:Int)))) hf rfl rfl hb15 rfl (fun w hS=>aA.lss rfl rfl) fun a hf=>OQ.gval (v:=.bool (!(decide ((Det.cfP zs (l4.getD (lo1-1) 0) (l4.getD p2 0))<(0:Int))))) hf rfl rfl hb15 rfl (fun w hS=>aA.not rfl) fun a hf=>?_; refine OQ.val (v:=.bool ((decide (((lo1:Nat):Int)>(0:Int)))&&(!(decide ((Det.cfP zs (l4.getD (lo1-1) 0) (l4.getD p2 0))<(0:Int)))))) hf rfl (fun w hS=>aA.pick rfl rfl rfl (by rw [hb15]; rfl)) fun a hf=>?_; exact OQ.nil (hf.q rfl)
        · have hb15p:=of_decide_eq_false hb15
          refine OQ.aJ hf rfl rfl hb15 rfl fun a hf=>OQ.aJ hf rfl rfl hb15 rfl fun a hf=>OQ.aJ hf rfl rfl hb15 rfl fun a hf=>OQ.aJ hf rfl rfl hb15 rfl fun a hf=>OQ.aJ hf rfl rfl hb15 rfl fun a hf=>OQ.aJ hf rfl rfl hb15 rfl fun a hf=>OQ.aJ hf rfl rfl hb15 rfl fun a hf=>OQ.aJ hf rfl rfl hb15 rfl fun a hf=>OQ.aJ hf rfl rfl hb15 rfl fun a hf=>OQ.aJ hf rfl rfl hb15 rfl fun a hf=>OQ.aJ hf rfl rfl hb15 rfl fun a hf=>OQ.aJ hf rfl rfl hb15 rfl fun a hf=>OQ.aJ hf rfl rfl hb15 rfl fun a hf=>?_; refine OQ.val (v:=.bool ((decide (((lo1:Nat):Int)>(0:Int)))&&(!(decide ((Det.cfP zs (l4.getD (lo1-1) 0) (l4.getD p2 0))<(0:Int)))))) hf rfl (fun w hS=>aA.pick rfl rfl rfl (by rw [hb15]; rfl)) fun a hf=>?_; exact OQ.nil (hf.q rfl)
      clear hf a; intro a hf; refine OQ.nil ?_; intro w hS; refine aF ?_; refine W.if_ hf rfl (fun hpq=>?_) (fun hpq=>?_)
      · have hpqb:=hpq
        try simp only [bsm] at hpq
        refine W.seq ?_
        refine R7 rfl<|mv hf rfl<|fun a hf=>mv hf rfl fun a hf=>mv hf rfl fun a hf=>mv hf rfl fun a hf=>mv hf rfl fun a hf=>?_; refine oc hf rfl aBj (aD5 N lo1 hi1 p2 vX vP l4 zs fW fH _ hN hl4 hr4 (hS.aL (j:=0) rfl) hsep (hS.iJ (j:=0) rfl) (by omega) (by omega) hp3 hp4) ?_; clear hf a; rintro ⟨mid,l6⟩ w17 ⟨hS1,hpe,hl6,hr6⟩ a hf; try dsimp only at hS1 hf; replace hS:=(hS.dA hS1 (i:=0) rfl (fun _ h=>h)).eqM (N:=[sl 3 1 vX N (ints l6)]) rfl; dsimp only at hpe hl6 hr6 hf hS; have hrd:=Go.Sort.round_eq (Det.uJ zs) (Go.Sort.partitionEqual_holds _) (by omega) hp3 hp4 (by simp; omega) hbw4 (by rw [Det.bI,Det.bI]; unfold Det.ltP; rw [decide_eq_false_iff_not]; omega) hpe; refine mv hf rfl fun a hf=>?_; refine nk<|W.seq<|?_
        refine R2 rfl<|mv hf rfl<|fun a hf=>mv hf rfl fun a hf=>?_; refine nk<|W.exit<|aC<|bD<|?_; refine aS ⟨(mid,hi1,lim2,wb,wp,l6),⟨hf.to ⟨rfl,(by first | rfl | exact vI (by omega)),(by first | rfl | exact vI (by omega)),(by first | rfl | exact vI (by omega)),rfl,(by first | rfl | exact vI (by omega)),(by first | rfl | exact vI (by omega)),trivial⟩,?_,?_,?_,?_,?_,?_,?_⟩,?_⟩
        · exact hS.eqM rfl
        · omega
        · exact hlm2
        · exact hl6
        · exact hr6
        · exact hrd.2.2.2.1
        · exact fun R h1 h2=>(fun q=>hk R (Go.Sort.permIn_trans _ _ _ _ _ hpm4 q.1) q.2) (hrd.2.2.2.2 R h1 h2)
        · dsimp only; omega
      · have hpqb:=hpq
        try simp only [bsm] at hpq
        refine W.skip<|aF<|W.seq<|?_
        refine W.aY (l:=[0,1,2,3,4,5,6,7,8,9,10]) rfl<|mv hf rfl<|fun a hf=>?_; refine mv hf rfl fun a hf=>mv hf rfl fun a hf=>mv hf rfl fun a hf=>mv hf rfl fun a hf=>?_; refine oc hf rfl aBE (aDf N lo1 hi1 p2 vX vP l4 zs fW fH _ hN hl4 hr4 (hS.aL (j:=0) rfl) hsep (hS.iJ (j:=0) rfl) (by omega) (by omega) hp3 hp4) ?_; clear hf a; rintro ⟨mid,ap,l6⟩ w18 ⟨hS1,hpt,hl6,hr6⟩ a hf; try dsimp only at hS1 hf; replace hS:=(hS.dA hS1 (i:=0) rfl (fun _ h=>h)).eqM (N:=[sl 3 1 vX N (ints l6)]) rfl; dsimp only at hpt hl6 hr6 hf hS; have hrd:=Go.Sort.round_part (Det.uJ zs) (Go.Sort.partition_holds _) hp3 hp4 (by simp; omega) hbw4 hpt; refine mv hf rfl fun a hf=>ov hf rfl (aA.extract rfl rfl) fun a hf=>ov hf rfl (aA.extract rfl rfl) fun a hf=>mv hf rfl fun a hf=>mv hf rfl fun a hf=>?_; refine nk<|W.seq<|?_
        refine R2 rfl<|mv hf rfl<|fun a hf=>mv hf rfl fun a hf=>?_; refine nk<|W.seq<|?_
        refine W.aY (l:=[0,1,2,3,4,5,6,7]) rfl<|mv hf rfl<|fun a hf=>?_; refine mv hf rfl fun a hf=>ov hf rfl (aA.cZ rfl rfl (by omega)) fun a hf=>mv hf rfl fun a hf=>mv hf rfl fun a hf=>ov hf rfl (aA.cZ rfl rfl (by omega)) fun a hf=>mv hf rfl fun a hf=>mv hf rfl fun a hf=>?_; refine nk<|W.seq<|?_
        refine R3 rfl<|mv hf rfl<|fun a hf=>ov hf rfl (aA.uH (p':=hi1-lo1) (q':=8) rfl rfl (by omega) rfl (by omega) (by omega)) fun a hf=>mv hf rfl fun a hf=>?_; refine nk<|W.seq<|?_
        refine R3 rfl<|mv hf rfl<|fun a hf=>mv hf rfl fun a hf=>ov (v:=.bool (decide ((((mid:Nat):Int)-((lo1:Nat):Int))<(((hi1:Nat):Int)-((mid:Nat):Int):Int)))) hf rfl (aA.lss rfl rfl) fun a hf=>?_; refine nk ?_; refine W.bJ hf rfl (fun hll=>?_) (fun hll=>?_)
        · refine W.seq ?_
          refine R4 rfl<|mv hf rfl<|fun a hf=>mv hf rfl fun a hf=>ov (v:=.bool (decide ((((mid:Nat):Int)-((lo1:Nat):Int))≥((((hi1-lo1)/8:Nat):Int):Int)))) hf rfl (aA.geq rfl rfl) fun a hf=>mv hf rfl fun a hf=>?_; refine nk<|W.seq<|?_
          refine R6 rfl<|mv hf rfl<|fun a hf=>mv hf rfl fun a hf=>mv hf rfl fun a hf=>mv hf rfl fun a hf=>mv hf rfl fun a hf=>?_; refine oc hf rfl qE (ih (mid-lo1) (by omega) lo1 mid lim2 l6 _ (Nat.le_refl _) (by omega) (by omega) (by omega) hl6 hr6 hrd.2.2.2.1 (hS.aL (j:=0) rfl) (hS.iJ (j:=0) rfl)) ?_; clear hf a; rintro l7 w20 ⟨hS1,hso,hl7,hr7⟩ a hf; replace hS:=(hS.dA hS1 (i:=0) rfl (fun _ h=>h)).eqM (N:=[sl 3 1 vX N (ints l7)]) rfl; refine nk ?_
          refine R3 rfl<|mv hf rfl<|fun a hf=>ov hf rfl (aA.ak rfl rfl (by omega)) fun a hf=>mv hf rfl fun a hf=>?_; refine O.nil<|aG<|?_; refine aS ⟨((mid+1),hi1,lim2,decide ((((mid:Nat):Int)-((lo1:Nat):Int))≥((((hi1-lo1)/8:Nat):Int):Int)),ap,l7),⟨hf.to ⟨rfl,(by first | rfl | exact vI (by omega)),(by first | rfl | exact vI (by omega)),(by first | rfl | exact vI (by omega)),rfl,(by first | rfl | exact vI (by omega)),(by first | rfl | exact vI (by omega)),trivial⟩,?_,?_,?_,?_,?_,?_,?_⟩,?_⟩
          · exact hS.eqM rfl
          · omega
          · exact hlm2
          · exact hl7
          · exact hr7
          · exact (hrd.2.2.2.2.2.1 _ hso.1 hso.2).1
          · exact fun R h1 h2=>(fun q=>hk R (Go.Sort.permIn_trans _ _ _ _ _ hpm4 q.1) q.2) ((hrd.2.2.2.2.2.1 _ hso.1 hso.2).2 R h1 h2)
          · dsimp only; omega
        · refine W.seq ?_
          refine R4 rfl<|mv hf rfl<|fun a hf=>mv hf rfl fun a hf=>ov (v:=.bool (decide ((((hi1:Nat):Int)-((mid:Nat):Int))≥((((hi1-lo1)/8:Nat):Int):Int)))) hf rfl (aA.geq rfl rfl) fun a hf=>mv hf rfl fun a hf=>?_; refine nk<|W.seq<|?_
          refine R7 rfl<|mv hf rfl<|fun a hf=>mv hf rfl fun a hf=>ov hf rfl (aA.ak rfl rfl (by omega)) fun a hf=>mv hf rfl fun a hf=>mv hf rfl fun a hf=>mv hf rfl fun a hf=>?_; rw [show (((mid:Nat):Int)+1)=(((mid+1:Nat):Int)) from by omega] at hf; refine oc hf rfl qE (ih (hi1-(mid+1)) (by omega) (mid+1) hi1 lim2 l6 _ (Nat.le_refl _) (by omega) (by omega) (by omega) hl6 hr6 hrd.2.2.2.2.1 (hS.aL (j:=0) rfl) (hS.iJ (j:=0) rfl)) ?_; clear hf a; rintro l7 w21 ⟨hS1,hso,hl7,hr7⟩ a hf; replace hS:=(hS.dA hS1 (i:=0) rfl (fun _ h=>h)).eqM (N:=[sl 3 1 vX N (ints l7)]) rfl; refine nk ?_
          refine R2 rfl<|mv hf rfl<|fun a hf=>mv hf rfl fun a hf=>?_; refine O.nil<|aG<|?_; refine aS ⟨(lo1,mid,lim2,decide ((((hi1:Nat):Int)-((mid:Nat):Int))≥((((hi1-lo1)/8:Nat):Int):Int)),ap,l7),⟨hf.to ⟨rfl,(by first | rfl | exact vI (by omega)),(by first | rfl | exact vI (by omega)),(by first | rfl | exact vI (by omega)),rfl,(by first | rfl | exact vI (by omega)),(by first | rfl | exact vI (by omega)),trivial⟩,?_,?_,?_,?_,?_,?_,?_⟩,?_⟩
          · exact hS.eqM rfl
          · omega
          · exact hlm2
          · exact hl7
          · exact hr7
          · exact (hrd.2.2.2.2.2.2 _ hso.1 hso.2).1
          · exact fun R h1 h2=>(fun q=>hk R (Go.Sort.permIn_trans _ _ _ _ _ hpm4 q.1) q.2) ((hrd.2.2.2.2.2.2 _ hso.1 hso.2).2 R h1 h2)
          · dsimp only; omega
theorem aCy (N:Nat) (vX vP:Value) (zs:List Int) (fW fH:Int) (hN:N≤100000) (hsep:∀ b,0<zs.length→vP.ownBlock=some b→¬ vX.ownBlock=some b):∀ n,aER n N vX vP zs fW fH:=fun n=>by
  induction n using Nat.strongRecOn with
  | _ n ih =>
    intro lo hi lim l w0 h1 h2 h3 h4 h5 h6 h7 h8 h9; exact aD9 N lo hi lim vX vP l zs fW fH w0 hN h5 h6 h8 hsep h9 (fun m hm=>ih m (by omega)) h2 h3 h4 h7
set_option maxHeartbeats 1000000 in
set_option maxRecDepth 4000 in
theorem aD3 (N :Nat) (vX vP:Value) (l zs:List Int) (fW fH:Int) (w0:World) (hN:N≤100000) (hl:l.length=N) (hr:Det.InR zs.length l) (hP:aQ (hp w0) 1 vP zs.length (ints zs)) (hsep:∀ b,0<zs.length→vP.ownBlock=some b→¬ vX.ownBlock=some b) (hX:dZ (hp w0) 3 1 vX N (ints l)) (hN2:N≤10000) :
    Ret Tryz.prog 93 #[vX,(fB 60 fW fH vP)] w0 (G:=List Int) (fun _=>.tuple #[]) (fun l' w=>St w0 w (oB vX) [] [sl 3 1 vX N (ints l')]∧(l'=l.mergeSort (fun x y=>!Det.ltP zs y x))∧l'.length=N∧Det.InR zs.length l'):=by
  refine aR (lv:=[vX,(fB 60 fW fH vP)]) Tryz.func93 rfl rfl rfl (fun a hf=>?_); replace hf:Fr a 14 [] [(0,vX),(1,(fB 60 fW fH vP))]:=hf; have hS:St w0 w0 (oB vX) [rI vP zs] [sl 3 1 vX N (ints l)]:=(St.own hX).lend hP hsep; refine W.seq ?_
  refine R3 rfl<|mv hf rfl<|fun a hf=>ov hf rfl (aA.bP (e:=3) (by simpa using aB) rfl (hS.slr (j:=0) rfl)) fun a hf=>mv hf rfl fun a hf=>?_; refine nk ?_
  refine R7 rfl<|mv hf rfl<|fun a hf=>mv hf rfl fun a hf=>mv hf rfl fun a hf=>ov hf rfl (aA.aDQ yo aBy rfl (by omega)) fun a hf=>?_; refine oc hf rfl aC8 (aEl N _ (by omega)) ?_; clear hf a; rintro lim w1 ⟨hS1,hlim⟩ a hf; replace hS:=hS.cl hS1; refine mv hf rfl fun a hf=>?_; refine oc hf rfl qE (aCy N vX vP zs fW fH hN hsep N 0 N lim l _ (by omega) (by omega) (by omega) (by omega) hl hr (.inl rfl) (hS.aL (j:=0) rfl) (hS.iJ (j:=0) rfl)) ?_; clear hf a; rintro l7 w2 ⟨hS1,hso,hl7,hr7⟩ a hf; replace hS:=(hS.dA hS1 (i:=0) rfl (fun _ h=>h)).eqM (N:=[sl 3 1 vX N (ints l7)]) rfl; refine O.nil<|eP<|iY hf rfl <|?_; refine ⟨l7,rfl,(hS.sub (List.Sublist.cons_cons _ (List.nil_sublist _))).noB,?_,hl7,hr7⟩; have h:=Go.Sort.sorted_unique_holds (Det.uJ zs) Det.aC9 l.toArray l7.toArray (by simpa [hl] using hso.1) (by simpa [hl] using hso.2)
  simpa using h
end Go.Proofs.YtipfobacinmoiaaGreat
