/- Part of a proof: laws and walks. -/
import Derived.Test.YtgakdmmmljdpjaaDoorTan
set_option linter.unusedVariables false
set_option linter.unusedSimpArgs false
namespace Go.SL
open Go
section
variable {T:Type} [Inhabited T] {P:Program} {w:World} {n:Nat} {ds:List Deferred} {L:List (Nat × Value)} {ty t:TypeId} {x:Operand} {v u:Value} {enc:T→List Value} {l:List T} {sz q j o:Nat}
theorem RunV.ldG2 (ha:tAgg P t=some false) (henc:∀ x,(enc x).length=sz) (hx:ev L x=some (ix v (j*sz+o))) (hr:rdOK (hp w) sz v l.length (encs enc l)) (hj:j<l.length) (ho:Nat.blt o sz=true) (hv:(enc (l.getD j default))[o]? = some u):RunV P n ds L (.load t x) ty w u w:=by
  have h0:l[j]? = some (l.getD j default):=by simp [List.getD_eq_getElem?_getD,List.getElem?_eq_getElem hj]
  exact RunV.ld1 ha hx hr (by rw [encs_get henc h0 (by simpa using ho)]; exact hv)
end
theorem take_fit {h:Hp} {v:Value} {l:List Ch} {k:Nat} (hr:rdOK h 12 v l.length (encs eC l)) (hf:vfit v) (hk:k≤l.length):vfit (vsub 12 v 0 (k:Int)) :=
  (rdEOK.sub (enc:=eC) (l:=l) ⟨hr,hf⟩ eC_len (show sbd 0 (k:Int) (l.length:Int) from ⟨by omega,by omega,by omega⟩)).2
section
variable {l:List Ch} {S S2:List PG} {us:List Bool} {n k:Nat} {e:Int}
theorem set_get (h:k<us.length):(us.set n true).getD k false=if n=k then true else us.getD k false:=by
  simp only [List.getD_eq_getElem?_getD,List.getElem?_set]
  split
  · rename_i h1; subst h1; rw [if_pos h]; rfl
  · rfl
theorem live_yes (hk:k<us.length) (h:(decide ((k:Int)≠(n:Int))&&decide ((l.getD k default).kind≠(4:Int))&&!us.getD k false)=true):liveK l (us.set n true) (k+1)=liveK l (us.set n true) k++[l.getD k default]:=by
  simp only [Bool.and_eq_true,decide_eq_true_eq,Bool.not_eq_true'] at h
  exact if_pos ⟨h.1.2,by rw [set_get hk,if_neg (by omega)]; exact h.2⟩
theorem live_no (hk:k<us.length) (h:(decide ((k:Int)≠(n:Int))&&decide ((l.getD k default).kind≠(4:Int))&&!us.getD k false)=false):liveK l (us.set n true) (k+1)=liveK l (us.set n true) k:=by
  refine if_neg fun h2=>?_
  rw [set_get hk] at h2
  have h3:¬ n=k:=fun h4=>by rw [if_pos h4] at h2; cases h2.2
  rw [if_neg h3] at h2
  rw [decide_eq_true h2.1,h2.2,decide_eq_true (show (k:Int)≠(n:Int) by omega)] at h
  cases h
theorem rest_hist (hm:histM l=.ok (S,us)):histM (liveK l (us.set n true) l.length)=mapOk (fun S=>(S,List.replicate (liveK l (us.set n true) l.length).length false)) (playM l (us.set n true)):=by
  obtain ⟨h1,h2,h3,h4⟩:=hist_parts hm
  rw [hist_self (liveK_ok h2 (Nat.le_refl _)) (Nat.le_trans (liveK_len _ _ _) h1)]
  unfold playM
  rw [playK_live]
theorem hist_len (hm:histM l=.ok (S,us)):us.length=l.length:=undoK_len (hist_parts hm).2.2.1
end
end Go.SL

namespace Go.Proofs.YtgakdmmmljdpjaaDoor
open Go Go.SL
theorem great_false (vl:Value) (l:List Ch) (w0:World) (hl:rdOK (hp w0) 12 vl l.length (encs eC l)) (h:l.length≤25) :
    Ret Tryd.prog 10 #[vl] w0 (G:=Unit) (fun _=>.bool false) (fun _ w=>St w0 w noX [] []):=by
  have h1:=great_spec vl l w0 hl
  have h2:greatM l.length=false:=by
    unfold greatM
    rw [decide_eq_false (p:=(l.length:Int)>25) (by omega),decide_eq_false (p:=(l.length:Int)>510) (by omega)]
    rfl
  rw [h2] at h1
  exact h1
end Go.Proofs.YtgakdmmmljdpjaaDoor
