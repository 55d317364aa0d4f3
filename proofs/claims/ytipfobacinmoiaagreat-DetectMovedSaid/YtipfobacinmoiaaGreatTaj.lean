/- Part of a proof: laws and walks. -/
import Derived.Test.YtipfobacinmoiaaGreatTac
import Derived.Test.YtipfobacinmoiaaGreatTab
import Derived.Test.YtipfobacinmoiaaGreatTah
import Derived.Test.YtipfobacinmoiaaGreatLayb
set_option linter.unusedVariables false
set_option linter.unusedSimpArgs false
namespace Go.SL
open Go Go.Sort
theorem uY {n:Nat} (h:0<n):0<(1 <<< bitsLen n)∧(1 <<< bitsLen n)≤2*n:=by
  rw [Nat.shiftLeft_eq,Nat.one_mul]
  refine ⟨Nat.pow_pos (by decide),?_⟩
  have h1:¬ bitsLen n≤bitsLen n-1∨bitsLen n=0:=by omega
  rcases h1 with h1 | h1
  · have h2:=mt (bitsLen_le_iff n (bitsLen n-1)).2 h1
    have h3:2^bitsLen n=2*2^(bitsLen n-1):=by
      obtain ⟨k,hk⟩:∃ k,bitsLen n=k+1:=⟨bitsLen n-1,by omega⟩
      rw [hk,Nat.add_sub_cancel,Nat.pow_succ]; omega
    omega
  · rw [h1]; omega
theorem wL {w:World} {c:Nat} {o:Obj} (h:w.heap[c]? = some o) (v:Obj) (n:Nat):St w ((gL w c v).drewN n) (fun k=>k=c) [] [pt c v]:=by
  have hl:=(Array.getElem?_eq_some_iff.1 h).1
  have hS:=(St.xk (B:=[]) h (by simp) (by simp)).write (w':=gL w c v) (i:=0) (q:=pt c v) rfl rfl rfl rfl (by simp [gL]) (fun b _ hb=>?_) ?_ (fun b hb=>⟨.inl hb,by
    have hb:b=c:=hb
    subst hb; simpa [gL] using hl⟩)
  · exact ⟨hS.os,hS.tape,hS.output,hS.size,hS.old,hS.sep,hS.bor⟩
  · have hb:¬ b=c:=hb
    simp only [gL]
    exact Array.getElem?_setIfInBounds_ne (fun e=>hb e.symm)
  · show (gL w c v).heap[c]? = some v
    simp only [gL]
    exact Array.getElem?_setIfInBounds_self_of_lt hl
end Go.SL
namespace Go.Proofs.YtipfobacinmoiaaGreat
open Go Go.SL Go.Proofs Go.Shelf Go.RowKit Go.Sort
theorem aDj (c X:Nat) (w0:World) (hX:X<18446744073709551616) (hc:w0.heap[c]? = some (.cells #[.int .u64 (X:Int)] 130 (0,0))) :
    Ret Tryz.prog 97 #[.pointer (some ⟨c,0,none⟩)] w0 (G:=Unit) (fun _=>.int .u64 ((xorNextN X:Nat):Int)) (fun _ w=>St w0 w (fun k=>k=c) [] [pt c (.cells #[.int .u64 ((xorNextN X:Nat):Int)] 130 (0,0))]):=by
  refine Calls.mono (AnyF.xorshift_Next Tryz.nextA c 0 X hX w0 (by simp [World.cell?,hc]) (by simp [World.frozen?,hc])) ?_
  rintro e w ⟨rfl,rfl⟩
  refine ⟨(),rfl,?_⟩
  rw [mP hc]
  exact wL hc _ 3
theorem aEm (n:Nat) (w0:World) (hn:n≤1000000):Ret Tryz.prog 96 #[.int .i64 (n:Int)] w0 (G:=Unit) (fun _=>.int .u64 ((1 <<< bitsLen n:Nat):Int)) (fun _ w=>St w0 w noX [] []):=by
  refine Calls.mono (AnyF.nextPowerOfTwo Tryz.powA n (by omega) w0) ?_
  rintro e w ⟨rfl,rfl⟩
  exact ⟨(),rfl,St.refl _⟩
theorem aEl (n:Nat) (w0:World) (hn:n≤1000000):Ret Tryz.prog 55 #[.int .u64 (n:Int)] w0 (G:=Nat) (fun g=>.int .i64 (g:Int)) (fun g w=>St w0 w noX [] []∧g≤100):=by
  have h:=Any.bits_Len (SlLaysF0.n15.bits (P:=Tryz.prog) (ρ:=Tryz.lenA_ren) { Tryz.lenA with }) (n:Int) w0 (by omega) (by omega)
  rw [Int.toNat_natCast,bitLen_eq _ (by omega)] at h
  refine Calls.mono h ?_
  rintro e w ⟨rfl,rfl⟩
  exact ⟨bitsLen n,rfl,St.refl _,Nat.le_trans ((bitsLen_le_iff n 64).2 (by omega)) (by decide)⟩
end Go.Proofs.YtipfobacinmoiaaGreat
