/- A function's reckoning cut into pieces: one theorem for each piece of a chain of code. -/
import Derived.Test.YtlddnbhcgaodhaaGreatRXP
set_option linter.unusedVariables false
set_option linter.unusedSimpArgs false
namespace Go.RX
open Go Go.SL
def bodyOf (P : Program) (f : FuncId) : Code := match P.funcs[f]? with
  | some fn => match fn.body with
    | some c => c
    | none => .skip
  | none => .skip
def tmpsN (P : Program) (f : FuncId) : Nat := match P.funcs[f]? with
  | some fn => fn.ntmps
  | none => 0
def hdc : Code → Code
  | .seq a _ => a
  | c => c
def tlc : Nat → Code → Code
  | 0, c => c
  | k + 1, .seq _ b => tlc k b
  | _ + 1, c => c
def isSeq : Code → Bool
  | .seq _ _ => true
  | _ => false
theorem tlc_succ : ∀ (k : Nat) (c : Code), isSeq (tlc k c) = true → tlc k c = .seq (hdc (tlc k c)) (tlc (k + 1) c)
  | 0, .seq a b, _ => rfl
  | k + 1, .seq a b, h => tlc_succ k b h
  | 0, .skip, h => by cases h
  | 0, .region .., h => by cases h
  | 0, .cond .., h => by cases h
  | 0, .block .., h => by cases h
  | 0, .loop .., h => by cases h
  | 0, .exit .., h => by cases h
  | 0, .ret, h => by cases h
  | 0, .label .., h => by cases h
  | 0, .rangeFunc .., h => by cases h
  | 0, .scope .., h => by cases h
  | 0, .goto .., h => by cases h
  | 0, .refuse .., h => by cases h
  | k + 1, .skip, h => by cases h
  | k + 1, .region .., h => by cases h
  | k + 1, .cond .., h => by cases h
  | k + 1, .block .., h => by cases h
  | k + 1, .loop .., h => by cases h
  | k + 1, .exit .., h => by cases h
  | k + 1, .ret, h => by cases h
  | k + 1, .label .., h => by cases h
  | k + 1, .rangeFunc .., h => by cases h
  | k + 1, .scope .., h => by cases h
  | k + 1, .goto .., h => by cases h
  | k + 1, .refuse .., h => by cases h
/-- what is needed of a state: some slots, some entries -/
def restr (ks es : List Nat) (s : S) : S := ⟨(hfr ks).run s.fr, dropN es 0 s.H, s.nx, s.df⟩
def pieceR (ks es : List Nat) : Option (Ex × S) → Option S
  | some (.n, s) => some (restr ks es s)
  | _ => none
theorem pieceR_some {ks es : List Nat} {x : Option (Ex × S)} {s1 : S} (h : pieceR ks es x = some s1) : ∃ s, x = some (.n, s) ∧ s1 = restr ks es s := by
  unfold pieceR at h
  split at h
  · rename_i s
    exact ⟨s, rfl, (Option.some.inj h).symm⟩
  · cases h
section
variable {P : Program} {wrF : FuncId → Bool} {F n : Nat} {B : List (Nat × Ent)} {T : Tab} {s s1 : S} {z : Ex × S} {w0 : World} {X : Nat → Prop} {ρ : Env} {L : List (Nat × Value)} {BM M : List Asr} {ds : List Deferred} {a : Act} {w : World}
theorem Rl.restr (h : Rl w0 X B n s ρ L BM M ds a w) (ks es : List Nat) : ∃ M', Rl w0 X B n (RX.restr ks es s) ρ L BM M' ds a w := by
  obtain ⟨M', h1, h2⟩ := dropN_ok (ks := es) (nx := 0) h.hm
  exact ⟨M', h.dom, fun k u hk => h.fr k u (hfr_get hk).2, h.hb, h1, h.df, h.act, h.st.sub h2⟩
theorem hcode_Ok (hT : TabOK P T) (c : Code) (s : S) : ((hcode P wrF F true n c).run B T s).Ok (CodeOK none P w0 X B n s c) := by
  rw [hcode_eq]
  exact xcode_ok hT (hdraw_ok hT) (fun _ => rfl) c s
/-- one piece, and the rest -/
theorem chain (hT : TabOK P T) (k : Nat) {c : Code} {ks es : List Nat} (hk : isSeq (tlc k c) = true) (hA : pieceR ks es ((hcode P wrF F true n (hdc (tlc k c))).run B T s).conc = some s1)
    (hB : CodeOK none P w0 X B n s1 (tlc (k + 1) c) z) : CodeOK none P w0 X B n s (tlc k c) z := by
  obtain ⟨s', h1, rfl⟩ := pieceR_some hA
  rw [tlc_succ k c hk]
  intro ρ L BM M ds a w hR Q hQ
  refine W.seq ?_
  refine (hcode_Ok (w0 := w0) (X := X) hT _ _).conc _ h1 ρ L BM M ds a w hR _ ?_
  intro ρ' L' M' ds' a' w' hle hR'
  obtain ⟨M2, hR2⟩ := hR'.restr ks es
  refine hB ρ' L' BM M2 ds' a' w' hR2 Q ?_
  intro ρ2 L2 M3 ds2 a2 w2 hle2 hR3
  exact hQ ρ2 L2 M3 ds2 a2 w2 (hle.trans hle2) hR3
theorem chain0 (hT : TabOK P T) {c : Code} (hA : ((hcode P wrF F true n c).run B T s).conc = some z) : CodeOK none P w0 X B n s c z := (hcode_Ok hT _ _).conc _ hA
def fnOK (P : Program) (f : FuncId) (n m : Nat) : Bool := match P.funcs[f]? with
  | some fn => match fn.body with
    | some _ => Nat.ble m fn.ntmps && Nat.beq fn.ntmps n
    | none => false
  | none => false
def resOf (P : Program) (f : FuncId) (s : S) : Option (List V × List (Nat × Ent)) := match P.funcs[f]? with
  | none => none
  | some fn => match leaveH s.df s.H with
    | none => none
    | some H2 => match xresL P ⟨s.fr, H2, s.nx, []⟩ fn.results.toList with
      | none => none
      | some l => some (l, H2)
theorem fun_of_code {f : FuncId} {fn : Func} {c : Code} {vs : List V} {H : List (Nat × Ent)} {nx : Nat} {s' : S} {H2 : List (Nat × Ent)} {l : List V} (hfn : P.funcs[f]? = some fn) (hc : fn.body = some c) (hle : Nat.ble vs.length fn.ntmps = true)
    (h1 : CodeOK none P w0 X B fn.ntmps ⟨argsV 0 vs, H, nx, []⟩ c (.r, s')) (hlv : leaveH s'.df s'.H = some H2) (hl : xresL P ⟨s'.fr, H2, s'.nx, []⟩ fn.results.toList = some l) : FunOK P w0 X B f vs H nx ⟨oneRes l, H2, s'.nx⟩ := by
  intro ρ BM M w vals hdom hv hb hm hst
  have hlen : Nat.ble vals.length fn.ntmps = true := by rw [← hv.len]; exact hle
  refine (callsIn_FW (r := none) (n := 0)).1 (callsIn_of_wp_marks hfn hc trivial ?_ rfl)
  have hf := Fr.start (args := vals.toArray) (l := vals) (n := fn.ntmps) (m := fn.ntmps - vals.toArray.size) rfl (by simpa using hlen) rfl
  refine h1 ρ _ BM M [] _ w ⟨hdom, argsV_ok 0 hv, hb, hm, .nil, hf, hst⟩ _ ?_
  intro ρ' L' M' ds' a' w' hle' hR
  have post : bodyPostM (FW none) 0 P fn (fun e w' => ∃ v', e = .returned v' ∧ ∃ ρ' M', ρ.le ρ' ∧ ρ'.nx = s'.nx ∧ VR ρ' (oneRes l) v' ∧ HR (ER ρ') H2 M' ∧ St w0 w' X BM M') .ret a' w' := by
    show LeavesInM (FW none) 0 P fn a'.tmps _ a'.defers .returning w'
    rw [hR.act.defers]
    refine leave_ok hR.df hR.hm hR.st hlv fun w2 M2 hm2 hs2 => ?_
    have hR2 : Rl w0 X B fn.ntmps ⟨s'.fr, H2, s'.nx, []⟩ ρ' L' BM M2 [] { a' with defers := [] } w2 := ⟨hR.dom, hR.fr, hR.hb, hm2, .nil, ⟨hR.act.size, rfl, hR.act.get⟩, hs2⟩
    obtain ⟨vs', h2, h3⟩ := xresL_ok (P := P) hR2 hl
    have hres : ∃ v', VR ρ' (oneRes l) v' ∧ (results fn a'.tmps).run P w2 = .ok v' w2 := by
      have e0 := run_results (fn := fn) { a' with defers := [] }
      simp only at e0
      rw [e0, Array.mapM_eq_mapM_toList]
      have h3' : ((List.toArray <$> (fn.results.toList.mapM (resSem { a' with defers := [] }))) : Sem _).run P w2 = .ok vs'.toArray w2 := by
        rw [← bind_pure_comp]
        simp only [Sem.run_bind, h3, Result.andThen, Sem.run_pure]
      cases h2 with
      | nil => exact ⟨_, .tu (cs := []) .nil, by simp only [Sem.run_bind, h3', Result.andThen, Sem.run_pure]; rfl⟩
      | cons h4 h5 => cases h5 with
        | nil => exact ⟨_, h4, by simp only [Sem.run_bind, h3', Result.andThen, Sem.run_pure]; rfl⟩
        | cons h6 h7 => exact ⟨_, .tu (.cons h4 (.cons h6 h7)), by simp only [Sem.run_bind, h3', Result.andThen, Sem.run_pure]; rfl⟩
    obtain ⟨v', h4, h5⟩ := hres
    exact ⟨v', h5, v', rfl, ρ', M2, hle', hR.dom, h4, hm2, hs2⟩
  exact post
/-- a function without arguments, from the pieces -/
theorem pure0_chain {f : FuncId} {c : Value} {s' : S} (hfit : fnOK P f n 0 = true) (h1 : ∀ w0, CodeOK none P w0 noX [] n ⟨argsV 0 [], [], 0, []⟩ (bodyOf P f) (.r, s')) (hr : (match resOf P f s' with
      | some ([.c v], _) => some v
      | _ => none) = some c) : Pure0 P f c := fun w => by
  unfold fnOK at hfit
  unfold bodyOf at h1
  unfold resOf at hr
  cases hP : P.funcs[f]? with
  | none => simp [hP] at hfit
  | some fn =>
    rw [hP] at hfit h1 hr
    simp only at hfit h1 hr
    cases hb : fn.body with
    | none => simp [hb] at hfit
    | some cd =>
      rw [hb] at hfit h1
      simp only [Bool.and_eq_true] at hfit h1
      have hn := Nat.eq_of_beq_eq_true hfit.2
      subst hn
      cases hl : leaveH s'.df s'.H with
      | none => simp [hl] at hr
      | some H2 =>
        rw [hl] at hr
        simp only at hr
        cases hx : xresL P ⟨s'.fr, H2, s'.nx, []⟩ fn.results.toList with
        | none => simp [hx] at hr
        | some l =>
          rw [hx] at hr
          simp only at hr
          have hk := fun_of_code (vs := []) (H := []) (nx := 0) hP hb hfit.1 (h1 w) hl hx ⟨fun _ => none, 0, fun _ _ => rfl⟩ [] [] w [] rfl .nil .nil .nil (St.refl w)
          split at hr
          · rename_i v H3 heq
            simp only [Option.some.injEq, Prod.mk.injEq] at heq
            obtain ⟨rfl, rfl⟩ := heq
            simp only [Option.some.injEq] at hr
            subst hr
            refine Calls.mono hk fun e w' he => ?_
            obtain ⟨v', rfl, ρ', M', _, _, h3, h4, h5⟩ := he
            cases h3 with
            | c => exact ⟨rfl, h5.sub (List.nil_sublist _)⟩
          · cases hr
end
end Go.RX
