/- The chapter's examples, reckoned. -/
import Derived.Test.YtipfobacinmoiaaGreatRXS
import Derived.Test.YtipfobacinmoiaaGreatRXP
import Derived.Test.YtipfobacinmoiaaGreatWab
set_option linter.unusedVariables false
set_option linter.unusedSimpArgs false
namespace Go.Proofs.YtipfobacinmoiaaGreat
open Go Go.SL Go.RX Go.Proofs Go.Shelf Go.RowKit Go.Maps
theorem sorted_K:SortedK Tryz.prog 63 90 3 82:=⟨sorted17_spec⟩
set_option maxRecDepth 1000000
def wr:FuncId→Bool:=fun f=>match f with
  | 49 | 44 | 69 | 81 | 119=>true
  | _=>false
def nW:FuncId→Bool:=fun _=>false
noncomputable def smA:SmT:=fun f=>match f with
  | 63=>some (gSorted 90 3 82)
  | _=>none
theorem smA_ok:∀ f g,smA f=some g→∀ w0 X B vs H nx,(g B vs H nx).Ok (FunOK Tryz.prog w0 X B f vs H nx):=by
  intro f g h
  unfold smA at h
  split at h
  · obtain rfl:=Option.some.inj h
    exact fun w0 X B vs H nx=>gSorted_ok sorted_K w0 X B vs H nx
  · cases h
theorem alive_pure:Pure0 Tryz.prog 15 (.bool true):=pure0_of (kp:=nW) (wrF:=wr) (F:=1000) (m:=50) smA_ok (isTrueA_ans (by kernel_rfl))
theorem alive_spec (w0:World):Ret Tryz.prog 15 #[] w0 (G:=Unit) (fun _=>.bool true) (fun _ w=>St w0 w noX [] []) :=
  Calls.mono (alive_pure w0) fun e w' ⟨he,hS⟩=>⟨(),he,hS⟩
end Go.Proofs.YtipfobacinmoiaaGreat
