/- x[:n:n] at the slice's own length, and append to it: a new block always. -/
import Derived.Test.YtlddnbhcgaodhaaGreatSL19
import Derived.ArgAppend
set_option linter.unusedVariables false
set_option linter.unusedSimpArgs false
namespace Go.SL
open Go
def vfull : Value → Value
  | .slice A n _ => .slice A n n
  | _ => undef
section
variable {T : Type} {enc : T → List Value} {sz : Nat} {l m : List T}
variable {r : Option Nat} {P : Program} {Q : Exit → Act → World → Prop} {ops : Array Oper} {i : Nat} {rest : List Nat} {a : Act} {w w0 w' : World} {n : Nat} {ds : List Deferred} {L : List (Nat × Value)}
  {d : Nat} {op : Op} {ty t e : TypeId} {pos : String} {af : Array Edge} {v u z : Value} {X : Nat → Prop} {B M M' : List Asr} {x y hi mx : Operand} {b o j jj N by_ c : Nat} {k k' : IntKind} {cs : Array Value} {zz : Nat × Nat}
theorem RunV.sliceFull {p q : Int} (he : tElem P t = some e) (hs : tSize P e = some sz) (hx : ev L x = some v) (hh : ev L hi = some (.int k p)) (hm : ev L mx = some (.int k' q)) (hr : rdEOK (hp w) sz enc v l) (hp' : p = l.length) (hq : q = l.length) :
    RunV P n ds L (.slice t x none (some hi) (some mx)) ty w (vfull v) w := fun a d pos af g hf => by
  subst hp' hq
  simp only [execOp, hf.eval hx, Option.map_some, Option.map_none, hf.eval hh, hf.eval hm]
  obtain ⟨⟨h1, h2, A, c, rfl, h3⟩, hfit⟩ := hr
  have hfit : l.length ≤ c := hfit
  have ht := und_elem he
  have ht : P.underlying t = some (.slice (P.elem t)) := by rw [ht]; simp [Program.elem, ht]
  have hel : P.elem t = e := by
    have := und_elem he
    rw [this] at ht
    simpa using ht.symm
  have hsz : (sizeOf (P.elem t)).run P w = .ok sz w := by rw [hel]; exact run_sizeOf hs
  refine run_v ?_
  rw [run_sliceAt_slice _ _ _ _ _ _ ht, run_slice_hm _ _ _ _ _ ht _ _ _ _ (by omega) (by omega) (by omega), hsz]
  simp only [Result.andThen, sliced, vfull, Int.toNat_natCast, Nat.sub_zero, Nat.zero_mul]
  congr 2
  split
  · rfl
  · rename_i h0
    obtain ⟨p, cur, e', z', rfl, hsp, _⟩ := h3 (by omega)
    obtain ⟨g, o, s⟩ := p
    simp only at hsp; subst hsp; simp [add_none]
theorem O.appendFull {l' : List T} {bo : Nat} (hf : Fr a n ds L) (hS : St w0 w X B M) (ho : ops[i]? = some ⟨some d, .call ⟨.builtin .append, #[x, y], #[t, t]⟩, ty, pos, af, none⟩) (hd : Nat.blt d n = true)
    (he : tElem P t = some e) (hs : tSize P e = some sz) (hby : tBytes P e = some by_) (hz : tZero P e = some z) (hzs : z.cells.size = sz) (h0 : Nat.blt 0 sz = true) (hx : ev L x = some (vfull v)) (hy : ev L y = some (.slice (some ⟨bo, 0, none⟩) N c))
    (hr : rdEOK (hp w) sz enc v l) (hMs : M[jj]? = some (pt bo (.cells cs e zz))) (hl : cs.size = N * sz) (hcs : cs.toList = encs enc m) (hN : m.length = N) (h1 : oneCells cs.toList = true) (hN0 : Nat.blt 0 N = true) (hN1 : Nat.ble N 1000 = true) (hmax : (l.length : Int) ≤ 4294967296) (hb : Nat.ble by_ 16000 = true) (hl' : l ++ m = l')
    (k : ∀ v' w' a', St w0 w' X B (slE e sz enc v' l' :: M) → Fr a' n ds ((d, v') :: L) → O r P ops Q rest a' w') : O r P ops Q (i :: rest) a w := by
  subst hl'
  have hb := Nat.le_of_ble_eq_true hb
  have hN1 := Nat.le_of_ble_eq_true hN1
  have hN0 : 0 < N := by simpa using hN0
  have h0 : 0 < sz := by simpa using h0
  have h9 : (l.length + N) * by_ ≤ 140737488355328 := by
    refine Nat.le_trans (Nat.mul_le_mul (show l.length + N ≤ 4294968296 by omega) hb) ?_
    decide
  have h63 : l.length + N ≤ maxLen := by unfold maxLen; omega
  unfold tSize at hs
  unfold tBytes at hby
  unfold tZero at hz
  obtain ⟨inf, hi, hsz⟩ := Option.map_eq_some_iff.1 hs
  rw [hi] at hby hz
  simp only [Option.map_some, Option.some.injEq, Option.bind_some] at hby hz
  have hnews : ∀ q u, cs.toList[q]? = some u → w.cell? (Addr.add ⟨bo, 0, none⟩ q) = some u := fun q u hu => by
    rw [add_none, cell_at (hS.ptAt hMs), ← Array.getElem?_toList, Nat.zero_add]; exact hu
  have key : ∃ v' w', (Builtin.append_ #[t, t] ty #[vfull v, .slice (some ⟨bo, 0, none⟩) N c]).run P w = .ok v' w' ∧ w'.ownsRow w.heap.size e sz v' (l.length + N) (encs enc l ++ cs.toList) ∧ w.grownBy w' none := by
    obtain ⟨⟨g1, g2, A, cc, rfl, g3⟩, hfit⟩ := hr
    cases A with
    | some b =>
      refine run_append_arg_grows (P := P) w t ty e inf z sz by_ (und_elem he) hi hz hsz hby hzs h0 b l.length l.length (encs enc l) g1 (fun q u hu => ?_) ⟨bo, 0, none⟩ N c cs.toList (by simpa using hl) hnews (by omega) h63 h9
      rcases Nat.eq_zero_or_pos l.length with h | h
      · have := (List.getElem?_eq_some_iff.1 hu).1
        rw [g1, h, Nat.zero_mul] at this; omega
      · obtain ⟨p, cur, e', z', hp, hsp, hgb, hgc⟩ := g3 h
        injection hp with hp
        subst hp
        obtain ⟨g, o, s⟩ := b
        simp only at hsp hgb hgc
        subst hsp
        rw [add_none, cell_at (show w.heap[g]? = some (.cells cur e' z') from hgb)]
        exact hgc q u hu
    | none =>
      have hl0 : l.length = 0 := by
        rcases Nat.eq_zero_or_pos l.length with h | h
        · exact h
        · obtain ⟨p, _, _, _, hp, _⟩ := g3 h; cases hp
      have hown : w.ownsRow w.heap.size e sz (.slice none 0 0) 0 [] := ⟨by simp, .inl ⟨rfl, rfl⟩⟩
      obtain ⟨v', w1, h2, h3, h4, _, h5⟩ := run_append_own_at (P := P) w w.heap.size t ty e inf z sz by_ (und_elem he) hi hz hsz hby hzs h0 (.slice none 0 0) 0 [] hown ⟨bo, 0, none⟩ N c cs.toList (by simpa using hl) hnews (oneCell_of h1) (by omega) (by rw [hl0] at h9; exact h9) (Nat.le_refl _)
      have hl1 : l = [] := List.length_eq_zero_iff.1 hl0
      subst hl1
      refine ⟨v', w1, h2, by simpa [encs] using h3, ?_⟩
      simpa [Value.ownBlock] using h4
  obtain ⟨v', w1, h2, h3, h4⟩ := key
  refine O.val (w' := w1) (v := v') hf ho rfl hd ?_ (fun a' hf' => k v' w1 a' ?_ hf')
  · intro a d pos af g hf
    refine run_builtin (vs := [vfull v, .slice (some ⟨bo, 0, none⟩) N c]) hf (by simp [evA, hx, hy]) ?_
    simp only [builtin]
    exact run_v h2
  · refine hS.push h4.os h4.tape h4.output h4.size (fun q hq => h4.block q hq (by simp)) ?_ (fun q hq => ?_)
    · have e1 : slE e sz enc v' (l ++ m) = sl e sz v' (l.length + N) (encs enc l ++ cs.toList) := by
        unfold slE; rw [encs_app, hcs, List.length_append, hN]
      rw [e1]
      refine slOK_iff.2 ?_
      refine ⟨h3.1, ?_⟩
      rcases h3.2 with h | ⟨g, cap, cur, h, _, hrest⟩
      · exact .inl h
      · exact .inr ⟨g, cap, cur, h, Nat.zero_le _, hrest⟩
    · have hq : v'.ownBlock = some q := hq
      exact h3.lt q hq
end
end Go.SL
