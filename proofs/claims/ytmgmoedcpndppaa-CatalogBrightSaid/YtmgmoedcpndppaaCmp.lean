/- Part of a proof: laws. -/
import Derived.Test.YtmgmoedcpndppaaLay
import Derived.StillTailTactics
set_option linter.unusedVariables false
set_option linter.unusedSimpArgs false
namespace Go.Proofs.Ytmgmoedcpndppaa
open Go Go.Shelf Go.RowKit Go.Lib Go.Sort
def encR (x:Int × Int):List Value:=[.int .i64 x.1,.int .i64 x.2]
def orI (a b:Int):Int:=if (a != 0)=true then a else b
def cmpR (x y:Int × Int):Int:=orI (Lib.compareInt x.2 y.2) (Lib.compareInt x.1 y.1)
set_option maxHeartbeats 1000000 in
theorem or16 (a b:Int) (blk:Nat) (W:World) (h0:W.cell? ⟨blk,0,none⟩=some (.int .i64 a)) (h1:W.cell? ⟨blk,1,none⟩=some (.int .i64 b)) :
    Calls Try.prog 16 #[.slice (some ⟨blk,0,none⟩) 2 2] W fun e w'=>e=.returned (.int .i64 (orI a b))∧w'=W:=by
  obtain ⟨r,hr⟩:∃ r,r=orI a b:=⟨_,rfl⟩
  rw [← hr]
  unfold orI at hr
  rcases Bool.eq_false_or_eq_true (a != 0) with ha | ha
  · rw [if_pos ha] at hr
    subst hr
    go_enter Try.func16,Try.ntmps16
    go_wp2
    refine wp_loop_rounds 3 ?_
    rw [rounds_succ]
    go_wp2
    go_ret
    exact ⟨rfl,rfl⟩
  · rw [if_neg (by rw [ha]; decide)] at hr
    subst hr
    rcases Bool.eq_false_or_eq_true (r != 0) with hb | hb
    · go_enter Try.func16,Try.ntmps16
      go_wp2
      refine wp_loop_rounds 3 ?_
      rw [rounds_succ]
      go_wp2
      rw [rounds_succ]
      go_wp2
      go_ret
      exact ⟨rfl,rfl⟩
    · have:r=0:=by simpa using hb
      subst this
      go_enter Try.func16,Try.ntmps16
      go_wp2
      refine wp_loop_rounds 3 ?_
      rw [rounds_succ]
      go_wp2
      rw [rounds_succ]
      go_wp2
      rw [rounds_succ]
      go_wp2
      go_ret
      exact ⟨rfl,rfl⟩
theorem cellG2 (W:World) (a b:Obj):(((W.alloc a).alloc b).heap[W.heap.size]? = some a∧((W.alloc a).alloc b).heap[W.heap.size+1]? = some b)∧((W.alloc a).alloc b).heap.size=W.heap.size+2:=by
  rw [alloc_eq_grow,alloc_eq_grow,grow_grow]
  unfold grow
  refine ⟨⟨?_,?_⟩,?_⟩
  · show (W.heap++(#[a]++#[b]))[W.heap.size]? = _
    rw [Array.getElem?_append_right (Nat.le_refl _),Nat.sub_self]; rfl
  · show (W.heap++(#[a]++#[b]))[W.heap.size+1]? = _
    rw [Array.getElem?_append_right (by omega),Nat.add_sub_cancel_left]; rfl
  · show (W.heap++(#[a]++#[b])).size=_
    rw [Array.size_append]; rfl
theorem cellOf {W:World} {b o:Nat} {cs:Array Value} {t:TypeId} {fr:Nat × Nat} (h:W.heap[b]? = some (.cells cs t fr)):W.cell? ⟨b,o,none⟩=cs[o]?:=by
  simp [World.cell?,h]
set_option maxHeartbeats 1000000 in
set_option maxRecDepth 20000 in
theorem closure11 (x y:Int × Int) (W:World):Calls Try.prog 11 #[.agg #[.int .i64 x.1,.int .i64 x.2],.agg #[.int .i64 y.1,.int .i64 y.2]] W fun e w'=>e=.returned (.int .i64 (cmpR x y))∧∃ q os',w'=grow (W.drewN q) os':=by
  have hcon:=fun a b W'=>AnyG.cmp_Compare_int Try.cmpInt a b W'
  change ∀ a b W',Calls Try.prog 17 _ _ _ at hcon
  unfold cmpR
  go_enter Try.func11,Try.ntmps11
  go_wp2
  obtain ⟨⟨h1,h2⟩,hz⟩:=cellG2 W (.cells #[.int .i64 x.1,.int .i64 x.2] 39) (.cells #[.int .i64 y.1,.int .i64 y.2] 39)
  have hg:(W.alloc (.cells #[.int .i64 x.1,.int .i64 x.2] 39)).alloc (.cells #[.int .i64 y.1,.int .i64 y.2] 39)=grow W #[.cells #[.int .i64 x.1,.int .i64 x.2] 39,.cells #[.int .i64 y.1,.int .i64 y.2] 39]:=by rw [alloc_eq_grow,alloc_eq_grow,grow_grow]; rfl
  generalize (W.alloc (.cells #[.int .i64 x.1,.int .i64 x.2] 39)).alloc (.cells #[.int .i64 y.1,.int .i64 y.2] 39)=W1 at h1 h2 hz hg ⊢
  obtain ⟨b1,hb1⟩:∃ b,b=W.heap.size:=⟨_,rfl⟩
  rw [← hb1] at h1 h2 hz ⊢
  refine wp_region_still_tail 10 (by kernel_rfl) (by kernel_rfl) ?_
  simp only [List.take_succ_cons,List.take_zero,List.drop_succ_cons,List.drop_zero]
  generalize hW2':({ heap:=W1.heap,tape:=W1.tape,drawn:=W1.drawn+1,os:=W1.os,output:=W1.output }:World)=W2
  have hW2:W2=W1.drew:=hW2'.symm
  replace hg:W2=grow (W.drewN 1) #[.cells #[.int .i64 x.1,.int .i64 x.2] 39,.cells #[.int .i64 y.1,.int .i64 y.2] 39]:=by rw [hW2,hg]; rfl
  replace h1:W2.heap[b1]? = some (.cells #[.int .i64 x.1,.int .i64 x.2] 39):=by rw [hW2]; exact h1
  replace h2:W2.heap[b1+1]? = some (.cells #[.int .i64 y.1,.int .i64 y.2] 39):=by rw [hW2]; exact h2
  replace hz:W2.heap.size=b1+2:=by rw [hW2]; exact hz
  clear hW2 hW2'
  have c1:W2.cell? ⟨b1,0,none⟩=some (.int .i64 x.1):=cellOf h1
  have c2:W2.cell? ⟨b1,1,none⟩=some (.int .i64 x.2):=cellOf h1
  have c3:W2.cell? ⟨b1+1,0,none⟩=some (.int .i64 y.1):=cellOf h2
  have c4:W2.cell? ⟨b1+1,1,none⟩=some (.int .i64 y.2):=cellOf h2
  clear h1 h2 hb1
  have HG:Hid (W2=grow (W.drewN 1) #[.cells #[.int .i64 x.1,.int .i64 x.2] 39,.cells #[.int .i64 y.1,.int .i64 y.2] 39]):=hg
  clear hg
  iterate 4 still_step
  still_call (hcon _ _ _)
  iterate 4 still_step
  still_call (hcon _ _ _)
  refine wpStill_nil ?_
  have hq:∃ r1 r2,r1=compareInt x.2 y.2∧r2=compareInt x.1 y.1:=⟨_,_,rfl,rfl⟩
  obtain ⟨r1,r2,hr1,hr2⟩:=hq
  rw [← hr1,← hr2]
  change wpList _ _ _ _ _ W2
  clear hcon c1 c2 c3 c4
  have hor:Calls Try.prog 16 #[.slice (some ⟨W2.heap.size,0,none⟩) 2 2] (W2.alloc (.cells #[.int .i64 r1,.int .i64 r2] 3)) fun e w'=>e=.returned (.int .i64 (orI r1 r2))∧w'=W2.alloc (.cells #[.int .i64 r1,.int .i64 r2] 3):=by
    have hh:(W2.alloc (.cells #[.int .i64 r1,.int .i64 r2] 3)).heap[W2.heap.size]? = some (.cells #[.int .i64 r1,.int .i64 r2] 3):=by
      rw [alloc_eq_grow]; exact Array.getElem?_push_size
    exact or16 r1 r2 W2.heap.size _ (cellOf hh) (cellOf hh)
  obtain ⟨r,hr⟩:∃ r,r=orI r1 r2:=⟨_,rfl⟩
  rw [← hr] at hor
  have HR:Hid (r=orI (compareInt x.2 y.2) (compareInt x.1 y.1)):=by rw [hr,hr1,hr2]; exact rfl
  clear hz hr hr1 hr2
  go_wp2_with (go_at_call 16; refine hor.mono ?_; rintro e w' ⟨rfl,rfl⟩)
  go_ret
  have e1:Ending.returned (Value.int .i64 r)=Ending.returned (Value.int .i64 (orI (compareInt x.2 y.2) (compareInt x.1 y.1))):=by rw [← HR.out]
  have e2:∃ os',W2.alloc (.cells #[.int .i64 r1,.int .i64 r2] 3)=grow (W.drewN 1) os':=⟨_,by rw [HG.out,alloc_eq_grow,grow_grow]⟩
  exact ⟨e1,1,e2⟩
theorem cmpI_lt (x y:Int):(Lib.compareInt x y<0↔x<y)∧(0<Lib.compareInt x y↔y<x):=by
  unfold Lib.compareInt
  by_cases h1:x<y
  · simp [h1]; omega
  · by_cases h2:y<x <;> simp [h1,h2]
theorem ltR (x y:Int × Int):ltOf cmpR x y=decide (x.2<y.2∨x.2=y.2∧x.1<y.1):=by
  have h1:=cmpI_lt x.2 y.2
  have h2:=cmpI_lt x.1 y.1
  unfold ltOf cmpR orI
  rw [decide_eq_decide]
  by_cases h:Lib.compareInt x.2 y.2=0
  · rw [if_neg (by simp [h])]
    omega
  · rw [if_pos (by simpa using h)]
    omega
theorem swoR:SWO (ltOf cmpR) where
  irrefl x:=by rw [ltR]; simp
  trans x y z h1 h2:=by rw [ltR] at *; simp at *; omega
  ntrans x y z h1 h2:=by rw [ltR] at *; simp at *; omega
theorem totR (x y:Int × Int) (h1:ltOf cmpR x y=false) (h2:ltOf cmpR y x=false):x=y:=by
  rw [ltR] at h1 h2
  simp at h1 h2
  apply Prod.ext <;> omega
theorem eg11:∀ args w,(callFunc 11 args).run Try.prog w=.ok (.enter 11 args) w:=enters_of Try.func11 (by kernel_rfl) rfl
end Go.Proofs.Ytmgmoedcpndppaa
