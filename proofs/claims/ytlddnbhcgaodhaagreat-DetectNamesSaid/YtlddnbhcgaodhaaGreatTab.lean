/- Part of a proof: what the reckoner needs to know of the library's sort of a set's keys; the chapter's examples. -/
import Derived.Test.YtlddnbhcgaodhaaGreatRXS
import Derived.Test.YtlddnbhcgaodhaaGreatRXC
import Derived.Test.YtlddnbhcgaodhaaGreatSLs
import Derived.Test.YtlddnbhcgaodhaaGreatLay
set_option linter.unusedVariables false
set_option linter.unusedSimpArgs false
namespace Go.Proofs.YtlddnbhcgaodhaaGreat
open Go Go.SL Go.RX Go.Proofs Go.Shelf Go.RowKit Go.Maps
theorem C_ok_42 : callOK Tryz.prog 42 = true := by kernel_rfl
theorem C_ok_56 : callOK Tryz.prog 56 = true := by kernel_rfl
theorem sorted_spec (b bm : Nat) (ins : List Bool) (w0 : World) (hb : w0.heap[b]? = some (.cells #[.map (some bm)] 54 (0, 0))) (hm : setOK (hp w0) bm ins) (hl : ins.length ≤ 10000) :
    Ret Tryz.prog 35 #[.func (.func 56) #[] #[.pointer (some ⟨b, 0, none⟩)]] w0 (G := Value) (fun v => v) (fun v w => St w0 w noX [] [SL.sl 3 1 v (Det.asc ins ins.length).length (ints (Det.asc ins ins.length))]) := by
  obtain ⟨D, hown, hnd, hmem, hsz⟩ := set_owns (P := Tryz.prog) (k := 3) (e := 4) Tryz.underlying3 Tryz.underlying4 hm hl
  have hblt : b < w0.heap.size := (Array.getElem?_eq_some_iff.1 hb).1
  have hcell : w0.cell? ⟨b, 0, none⟩ = some (.map (some bm)) := by simp [World.cell?, hb]
  have hseq : SeqGives Fence.wide 2 Tryz.prog 56 #[.pointer (some ⟨b, 0, none⟩)] encZ (fun ss => ss.Perm (intKeys D)) (Maps.size D) w0 :=
    AnyZI.keys_gives (ρ := Tryz.keysA_ren) { Tryz.keysA with } Fence.wide _ trivial rfl (by omega) b bm 10000 D w0 hblt hcell hown
  have sorts : AnyZI.SortsIn Tryz.prog Tryz.sortedA_ren Fence.wide 4 := ⟨fun blk off cap ss W hH hblk hsz => callsIn_wide.2 (AnyM.slices_Sort_int Tryz.sortA blk off cap ss W hH hblk hsz), fun p cap W => callsIn_wide.2 (AnyM.slices_Sort_int_none Tryz.sortA p cap W)⟩
  have cS := AnyZI.sorted_in Tryz.sortedA Fence.wide 5 trivial trivial trivial trivial rfl (by omega) sorts (fun args w => callOK_enter C_ok_42 args w) 56 #[.pointer (some ⟨b, 0, none⟩)] trivial (fun args w => callOK_enter C_ok_56 args w) _ _ (by unfold maxLen; omega) (by omega) w0 hseq
  refine Calls.mono (callsIn_wide.1 cS) ?_
  rintro e w ⟨v, ss, rfl, hp, hrow, _, hbl⟩
  have e1 : ss.mergeSort (fun x y => decide (x ≤ y)) = Det.asc ins ins.length :=
    Det.srt_eq_asc (hp.symm.nodup hnd) (fun t => by rw [hp.mem_iff]; exact hmem t)
  have e2 : ss.length = (Det.asc ins ins.length).length := by rw [← e1, List.length_mergeSort]
  rw [e1, e2] at hrow
  exact ⟨v, rfl, ownsRow.st hbl hrow⟩
theorem sorted_K : SortedK Tryz.prog 35 56 3 54 := ⟨sorted_spec⟩
set_option maxRecDepth 1000000
def wr : FuncId → Bool := fun f => match f with
  | 45 => true
  | 57 => true
  | 27 => true
  | 30 => true
  | _ => false
def nW : FuncId → Bool := fun _ => false
noncomputable abbrev PR : Program := Tryz.prog
noncomputable def smA : SmT := fun f => match f with
  | 35 => some (gSorted 56 3 54)
  | _ => none
theorem smA_ok : ∀ f g, smA f = some g → ∀ w0 X B vs H nx, (g B vs H nx).Ok (FunOK PR w0 X B f vs H nx) := by
  intro f g h
  unfold smA at h
  split at h
  · obtain rfl := Option.some.inj h
    exact fun w0 X B vs H nx => gSorted_ok sorted_K w0 X B vs H nx
  · cases h
theorem alive_pure : Pure0 PR 10 (.bool true) := pure0_of (kp := nW) (wrF := wr) (F := 1000) (m := 50) smA_ok (isTrueA_ans (by kernel_rfl))
noncomputable def sm : SmT := fun f => match f with
  | 35 => some (gSorted 56 3 54)
  | 10 => some (gPure (.bool true))
  | _ => none
theorem sm_ok : ∀ f g, sm f = some g → ∀ w0 X B vs H nx, (g B vs H nx).Ok (FunOK PR w0 X B f vs H nx) := by
  intro f g h
  unfold sm at h
  split at h
  · obtain rfl := Option.some.inj h
    exact fun w0 X B vs H nx => gSorted_ok sorted_K w0 X B vs H nx
  · obtain rfl := Option.some.inj h
    exact fun w0 X B vs H nx => gPure_ok alive_pure w0 X B vs H nx
  · cases h
noncomputable def TT : Tab := hT PR nW sm wr 1000 50
theorem TTok : TabOK PR TT := hT_ok sm_ok 50
def lf (v : V) : Fm := .n (some v) .e .e .e .e .e .e .e .e
def iV (n : Int) : V := .c (.int .i64 n)
def bV (b : Bool) : V := .c (.bool b)
abbrev LV (l : List (List V)) : List (List V) := l
end Go.Proofs.YtlddnbhcgaodhaaGreat
