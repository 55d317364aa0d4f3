/- The library's sort of a list of ints, out of the kit's contract. -/
import Derived.Test.YtipedambeemdaaaSL24
import Derived.Shelf.SortM.Plain
import Derived.Shelf.SortM.SortNone
import Derived.Sort.OwnSortedInts
set_option linter.unusedVariables false
set_option linter.unusedSimpArgs false
namespace Go.SL
open Go Go.Proofs Go.Shelf Go.RowKit Go.Maps
def srtI (l : List Int) : List Int := l.mergeSort (fun x y => decide (x ≤ y))
theorem srtI_len (l : List Int) : (srtI l).length = l.length := List.length_mergeSort _
theorem sort_anyI {P : Program} {ρ : Ren} (lay : SlLaysM.n5 P ρ) (e : TypeId) (vX : Value) (l : List Int) (w0 : World) (hX : slOK (hp w0) e 1 vX l.length (ints l)) (hl : l.length ≤ 10000) :
    Ret P (ρ.f 5) #[vX] w0 (G := Unit) (fun _ => .tuple #[]) (fun _ w => St w0 w (fun b => vX.ownBlock = some b) [] [sl e 1 vX (srtI l).length (ints (srtI l))]) := by
  have hlen : (srtI l).length = l.length := srtI_len l
  have hS := St.own hX
  rcases hX.2 with ⟨rfl, hn⟩ | ⟨g, cap, cur, rfl, hg, h1, h2, h3, h4⟩
  · obtain rfl : l = [] := List.eq_nil_of_length_eq_zero hn
    refine Calls.mono (AnyM.slices_Sort_int_none lay none 0 w0) ?_
    rintro e w ⟨rfl, rfl⟩
    refine ⟨(), rfl, ?_⟩
    rw [show srtI [] = [] from by simp [srtI]]
    exact hS
  · have hb : w0.heap[g]? = some (.cells cur e (0, 0)) := hg
    have hgl := (Array.getElem?_eq_some_iff.1 hb).1
    have hm : l.length < 4611686018427387904 := by omega
    refine Calls.mono (AnyM.slices_Sort_int lay g 0 cap l w0 (holds_of_blockI hb (by simpa [ints] using h4)) hgl hm) ?_
    rintro e' w ⟨rfl, n, os, rfl⟩
    refine ⟨(), rfl, ?_⟩
    have hgb := grownBy_sortedI (w := w0) (g := g) (n := n) (os := os) (srtI l).toArray
    have hrow := ownsRow_sortedI (n := n) (os := os) (base := 0) (cap := cap) (ts := srtI l) (ss := l) hlen (Nat.zero_le _) hb h1 h2 h3
    rw [show l.mergeSort (fun x y => decide (x ≤ y)) = srtI l from rfl]
    generalize Sort.grow (Sort.putRow (Value.int .i64) (Sort.ahead w0 n) g 0 (srtI l).toArray) os = w at hgb hrow ⊢
    have hok : slOK (hp w) e 1 (.slice (some ⟨g, 0, none⟩) l.length cap) (srtI l).length (ints (srtI l)) := by
      rw [hlen]; exact slOK_iff.2 hrow
    exact hS.write (i := 0) (p := sl e 1 (.slice (some ⟨g, 0, none⟩) l.length cap) l.length (ints l)) rfl hgb.os hgb.tape hgb.output hgb.size (fun b hb' hne => hgb.block b hb' (fun e => hne (by
      simp only [Option.some.injEq] at e; subst e; rfl))) hok (fun b hb' => ⟨.inl hb', by
        have : g = b := by simpa [sl, Value.ownBlock] using hb'
        have := hgb.size; omega⟩)
theorem sort_E {P : Program} {ρ : Ren} {E : Int → List Value} {f : FuncId} (lay : SlLaysM.n5 P ρ) (hf : ρ.f 5 = f) (hE : ∀ x, E x = [.int .i64 x]) (e : TypeId) (v : Value) (l r : List Int) (w0 : World) (hX : slOK (hp w0) e 1 v l.length (encs E l)) (hl : l.length ≤ 10000) (hr : srtI l = r) :
    Ret P f #[v] w0 (G := Unit) (fun _ => .tuple #[]) (fun _ w => St w0 w (fun k => v.ownBlock = some k) [] [slE e 1 E v r]) := by
  have h : ∀ l : List Int, encs E l = ints l := fun l => by
    induction l with
    | nil => rfl
    | cons x t ih => unfold encs ints at *; simp only [List.flatMap_cons, hE, List.map_cons, ih]; rfl
  subst hr hf
  rw [h] at hX
  unfold slE
  rw [h]
  exact sort_anyI lay e v l w0 hX hl
end Go.SL
