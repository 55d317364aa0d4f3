/- Part of a proof: laws and walks. -/
import Derived.Test.YtipfobacinmoiaaGreatTah
import Derived.Shelf.SlSortCmp.NoneTotal
import Derived.Test.YtipfobacinmoiaaGreatTaa
import Derived.Sort.Grow
import Derived.Test.YtipfobacinmoiaaGreatTal
import Derived.Test.YtipfobacinmoiaaGreatTac
import Derived.Test.YtipfobacinmoiaaGreatTad
import Derived.Test.YtipfobacinmoiaaGreatTan
import Derived.Test.YtipfobacinmoiaaGreatLayb
import Derived.Laws.Strings
set_option linter.unusedVariables false
set_option linter.unusedSimpArgs false
namespace Go.SL
open Go Go.Proofs Go.Shelf Go.RowKit Go.Sort Go.Lib
def o8 {T:Type} (lt:T→T→Bool) (l:List T):List T:=l.mergeSort fun x y=>!lt y x
theorem yB {T:Type} (lt:T→T→Bool) (l:List T):(o8 lt l).length=l.length:=List.length_mergeSort _
section
variable {T:Type} [Inhabited T] {E:T→List Value} {k:Nat}
end
end Go.SL

namespace Go.SL
open Go Go.Sort
theorem aHi {α:Type} (a:Ask α):∀ w:World,w.drawn≤(w.ask a).2.drawn:=by
  induction a with
  | done a=>intro w; exact Nat.le_refl _
  | ask what range k ih =>
    intro w
    simp only [World.ask]
    split
    · exact ih _ w
    · exact Nat.le_trans (Nat.le_succ w.drawn) (ih _ { w with drawn:=w.drawn+1 })
theorem aG8 (w:World) (c:Sys):w.drawn≤(w.sys c).2.drawn:=by
  have h:=aHi (Kernel.perform c w.os) w
  unfold World.sys
  split
  · exact Nat.le_refl _
  · rename_i heq
    rw [heq] at h
    exact h
theorem nH {ε α β:Type} {x:Except ε α} {f:α→Except ε β} {y:β} (h:(x >>= f)=.ok y):∃ a,x=.ok a∧f a=.ok y:=by
  cases x with
  | error e=>cases h
  | ok a=>exact ⟨a,rfl,h⟩
theorem wT {p:Program} {w w':World} {at_:Addr} {u:TypeId} {a:Addr} {v:Value} {at':Bool} {l:List Addr} (h:w.viewStore p at_ u a v at'=.ok (w',l)):w.drawn≤w'.drawn:=by
  unfold World.viewStore at h
  split at h
  all_goals
    dsimp only at h
    split at h
    · obtain ⟨_,h1,_⟩:=nH h
      cases h1
    obtain ⟨x,_,h⟩:=nH h
  · split at h
    · obtain ⟨_,h1,_⟩:=nH h
      cases h1
    obtain ⟨c,_,h⟩:=nH h
    simp only [pure,Except.pure,Except.ok.injEq,Prod.mk.injEq] at h
    rw [← h.1]
    exact Nat.le_refl _
  · cases h
theorem zG {p:Program} {w w':World} {a:Addr} {v:Value} {at':Bool} {l:List Addr} (h:w.farStore p a v at'=.ok (w',l)):w.drawn≤w'.drawn:=by
  unfold World.farStore at h
  split at h
  · split at h
    · rename_i heq
      cases h
      exact wT heq
    · cases h
  · cases h
def Rup {α:Type} (n:Nat):Result α→Prop
  | .ok _ w=>n≤w.drawn
  | .halt _ w=>n≤w.drawn
theorem vU (w:World) (a:Addr) (n:Nat):(w.freeze a n).drawn=w.drawn:=by unfold World.freeze; split <;> rfl
theorem Rup.le {α:Type} {n n':Nat} {r:Result α} (h:Rup n' r) (hn:n≤n'):Rup n r:=by cases r <;> exact Nat.le_trans hn h
theorem wL {α:Type} (p:Program) (s:Sem α):∀ w:World,Rup w.drawn (s.run p w):=by
  induction s with
  | pure a=>intro w; exact Nat.le_refl _
  | load m a k ih =>
    intro w
    simp only [Sem.run]
    repeat' split
    all_goals first
      | exact ih _ w
      | exact Nat.le_refl _
  | store m a v k ih =>
    intro w
    cases v
    case agg=>exact Nat.le_refl _
    case tuple=>exact Nat.le_refl _
    all_goals
      simp only [Sem.run]
      repeat' split
      all_goals first
        | exact Nat.le_refl _
        | exact ih (w.setCell _ _)
        | (rename_i heq; exact (ih _).le (zG heq))
  | new o k ih=>intro w; exact ih _ _
  | shape r k ih=>intro w; exact ih _ w
  | freeze a n k ih=>intro w; exact (ih (w.freeze a n)).le (by rw [vU]; exact Nat.le_refl _)
  | frozen a k ih=>intro w; exact ih _ w
  | getObj r k ih =>
    intro w
    simp only [Sem.run]
    repeat' split
    all_goals first
      | exact ih _ w
      | exact Nat.le_refl _
  | setObj r o k ih =>
    intro w
    simp only [Sem.run]
    repeat' split
    all_goals first
      | exact Nat.le_refl _
      | exact ih _
  | choose q k ih =>
    intro w
    simp only [Sem.run]
    split
    · exact ih _ w
    · exact (ih _ _).le (Nat.le_succ _)
  | sys c k ih=>intro w; exact (ih _ _).le (aG8 w c)
  | program k ih=>intro w; exact ih _ w
  | mark m k ih=>intro w; exact ih w
  | halt h=>intro w; exact Nat.le_refl _
theorem bK {α:Type} {p:Program} {s:Sem α} {w w':World} {a:α} (h:s.run p w=.ok a w'):w.drawn≤w'.drawn:=by
  have:=wL p s w
  rw [h] at this
  exact this
theorem jH {α:Type} {p:Program} {s:Sem α} {w w':World} {a:Halt} (h:s.run p w=.halt a w'):w.drawn≤w'.drawn:=by
  have:=wL p s w
  rw [h] at this
  exact this
def Gup (n:Nat):GStep→Prop
  | .go _ w _=>n≤w.drawn
  | .comm _ _ _ _ w _=>n≤w.drawn
  | .spawn _ _ w _=>n≤w.drawn
  | .count _ w _=>n≤w.drawn
  | .timer _ _ w _=>n≤w.drawn
  | .alone _ _ w _=>n≤w.drawn
  | .newcoro _ _ _ w _=>n≤w.drawn
  | .coroswitch _ _ _ w _=>n≤w.drawn
  | .collect _ w _=>n≤w.drawn
  | .watch _ w _=>n≤w.drawn
  | .ended _ _ _=>True
theorem Gup.after {n:Nat} {es:Array Event} {g:GStep} (h:Gup n g):Gup n (GStep.after es g):=by cases g <;> exact h
theorem Gup.le {n n':Nat} {g:GStep} (h:Gup n' g) (hn:n≤n'):Gup n g:=by cases g <;> first | trivial | exact Nat.le_trans hn h
def Sup (n:Nat):Stepped→Prop
  | .next m=>n≤m.world.drawn
  | .ended _ _=>True
theorem Gup.ite {n:Nat} {c:Prop} [Decidable c] {a b:GStep} (ha:Gup n a) (hb:Gup n b):Gup n (if c then a else b):=by split <;> assumption
theorem Gup.elim {α:Type} {n:Nat} {o:Option α} {a:GStep} {f:α→GStep} (ha:Gup n a) (hf:∀ x,Gup n (f x)):Gup n (o.elim a f):=by cases o <;> first | exact ha | exact hf _
theorem Sup.le {n n':Nat} {g:Stepped} (h:Sup n' g) (hn:n≤n'):Sup n g:=by cases g <;> first | trivial | exact Nat.le_trans hn h
theorem nM (fr:Frame) (ahead:List ByteArray) (m:String) (whole:Bool) (w:World):Gup w.drawn (dieOf fr ahead m whole w):=Nat.le_refl _
theorem rQ (n:Nat) (w:World) (fd:Nat) (text:ByteArray) (o:Outcome):Gup n (endWith w fd text o):=by
  unfold endWith
  simp only
  repeat' split
  all_goals trivial
theorem kW (p:Program) (fr:Frame) (v:Value) (w:World):Gup w.drawn (endPrinting p fr v w):=by
  unfold endPrinting
  simp only
  repeat' split
  all_goals first
    | trivial
    | exact Nat.le_refl _
theorem oU (p:Program) (fr:Frame) (cs:List Frame) (dy:Option Dying) (m:String) (w:World):Gup w.drawn (endFatal p fr cs dy m w):=by
  unfold endFatal
  simp only
  split
  · rename_i heq
    exact (nM _ _ _ _ _).le (bK heq)
  · trivial
  · trivial
theorem aAm (p:Program) (fr:Frame) (d:Dying) (f:Fatal) (w:World):Gup w.drawn (writeOn p fr d f w):=by
  unfold writeOn
  simp only [Sem.runT_eq]
  split
  · trivial
  · split
    all_goals first
      | trivial
      | (rename_i heq; injection heq with h1 h2; first | exact bK h1 | exact jH h1)
theorem aHJ (p:Program) (fr:Frame) (d:Dying) (w:World):Gup w.drawn (die p fr d w):=by
  unfold die
  split
  · exact aAm ..
  · split
    · split
      · exact Nat.le_refl _
      · exact rQ ..
    · simp only
      split
      · exact Nat.le_refl _
      · split
        · rename_i heq; exact bK heq
        · trivial
      · simp only [Sem.runT_eq]
        refine Gup.after ?_
        split
        all_goals first
          | trivial
          | (rename_i heq; exact bK heq)
          | (rename_i heq; exact (kW ..).le (jH heq))
      · trivial
theorem aDc (p:Program) (fr:Frame) (cs:List Frame) (dy:Option Dying) (g:Nat) (w:World):Gup w.drawn (early p fr cs dy g w):=by
  unfold early
  simp only
  repeat' split
  all_goals first
    | trivial
    | exact Nat.le_refl _
    | (dsimp only [Gup]; apply bK; assumption)
theorem jD (p:Program) (main:Bool) (fr:Frame) (cs:List Frame) (dy:Option Dying) (v:Value) (w:World):Gup w.drawn (doReturn p main fr cs dy v w):=by
  unfold doReturn
  simp only
  repeat' split
  all_goals first
    | trivial
    | exact Nat.le_refl _
theorem o6 (p:Program) (fr:Frame) (cs:List Frame) (dy:Option Dying) (d:Deferred) (w:World):Gup w.drawn (callDeferred p fr cs dy d w):=by
  unfold callDeferred
  refine Gup.ite trivial ?_
  simp only [Sem.runT_eq]
  refine Gup.after ?_
  have h:=wL p (invoke d.target d.args) w
  generalize Sem.run p (invoke d.target d.args) w=r at h
  cases r with
  | ok n w' =>
    cases n with
    | recover=>simp only; split <;> exact h
    | alone b v=>cases b <;> first | exact h | trivial
    | coroswitch c b=>cases b <;> first | exact h | trivial
    | _=>first | exact h | trivial
  | halt n w' =>
    cases n with
    | fatal m=>exact (oU ..).le h
    | throw m=>exact (nM ..).le h
    | _=>first | exact h | trivial
theorem aDM (p:Program) (main:Bool) (fr:Frame) (cs:List Frame) (dy:Option Dying) (w:World):Gup w.drawn (unwind p main fr cs dy w):=by
  unfold unwind
  split
  · simp only [Sem.runT_eq]
    refine Gup.after ?_
    split
    · rename_i heq; exact bK heq
    · trivial
  · exact o6 ..
  · split
    · trivial
    · split
      · trivial
      · split
        · exact Nat.le_refl _
        · split
          · split
            · exact Nat.le_refl _
            · split
              · rename_i heq; exact bK heq
              · trivial
              · trivial
          · split
            · exact kW ..
            · trivial
    · split
      · exact jD ..
      · simp only [Sem.runT_eq]
        refine Gup.after ?_
        split
        · rename_i heq; exact (jD ..).le (bK heq)
        · trivial
        · trivial
theorem iq (p:Program) (l:Bool) (fr:Frame) (cs:List Frame) (dy:Option Dying) (s:Sem Next) (w:World):Gup w.drawn (stepG.apply p l fr cs dy s w):=by
  have hr:(if l=true then s.runT p w #[] else (s.run p w,#[])).1=s.run p w:=by cases l <;> simp
  unfold stepG.apply
  dsimp only
  generalize (if l=true then s.runT p w #[] else (s.run p w,#[]))=r at hr
  obtain ⟨r,es⟩:=r
  simp only at hr
  subst hr
  dsimp only
  refine Gup.after ?_
  have h:=wL p s w
  generalize Sem.run p s w=r at h
  cases r with
  | ok n w' =>
    cases n with
    | recover=>simp only; split <;> exact h
    | callThen=>simp only; split <;> exact h
    | row=>simp only; split <;> exact h
    | stack=>simp only; split <;> exact h
    | spawn=>exact Gup.ite ((nM ..).le h) h
    | _=>first | exact h | trivial
  | halt n w' =>
    cases n with
    | fatal m=>exact (oU ..).le h
    | throw m=>exact (nM ..).le h
    | unsupported u=>cases u <;> first | trivial | exact (aDc ..).le h
    | _=>first | exact h | trivial
theorem aBD (p:Program) (l:Bool) (fr:Frame) (cs:List Frame) (dy:Option Dying) (w:World):Gup w.drawn (stepG.oper p l fr cs dy w):=by
  unfold stepG.oper
  split
  · trivial
  · split
    · exact iq ..
    · exact iq ..
theorem aFx (p:Program) (main l:Bool) (fr:Frame) (cs:List Frame) (dy:Option Dying) (w:World):Gup w.drawn (stepG.exec p main l fr cs dy w):=by
  unfold stepG.exec
  dsimp only
  split
  all_goals first
    | trivial
    | exact Nat.le_refl _
    | exact iq ..
    | skip
  all_goals (try refine Gup.elim ?_ (fun x=>?_))
  all_goals try simp only [Sem.runT_eq]
  all_goals first
    | exact Nat.le_refl _
    | skip
  all_goals (repeat' (first | exact iq .. | (refine (iq ..).le ?_; apply bK; assumption) | exact aBD .. | (refine (jD ..).le ?_; apply bK; assumption) | refine Gup.after ?_ | split))
  all_goals first
    | trivial
    | exact Nat.le_refl _
    | exact iq ..
    | exact aBD ..
    | (refine (jD ..).le ?_; apply bK; assumption)
    | (refine (iq ..).le ?_; apply bK; assumption)
    | (dsimp only [Gup]; apply bK; assumption)
    | (dsimp only [Gup]; apply jH; assumption)
theorem aEB (p:Program) (main:Bool) (g:Goroutine) (w:World) (l:Bool):Gup w.drawn (stepG p main g w l):=by
  obtain ⟨fr,cs,st,dy,off⟩:=g
  unfold stepG
  dsimp only
  split
  · exact aHJ ..
  · exact aFx ..
  · exact aDM ..
theorem aB7 (p:Program) (gs:Array Goroutine) (rest:Rest) (w:World):Sup w.drawn (look p gs rest w):=by
  unfold look
  split
  · dsimp only
    split
    · trivial
    · split
      · trivial
      · split
        · dsimp only [Sup]; apply bK; assumption
        · trivial
        · trivial
  · trivial
theorem qE (p:Program) (rest:Rest) (gs:Array Goroutine) (i:Nat) (g:Goroutine) (cases:Array CommCase) (bl:Bool) (sh:CommShape) (w:World):Sup w.drawn (communicate p rest gs i g cases bl sh w).1:=by
  unfold communicate
  dsimp only
  split
  · trivial
  split
  · split
    · split
      · rename_i heq
        dsimp only [Sup]
        unfold waitingAt at heq
        split at heq
        · split at heq
          · cases heq; exact Nat.le_refl _
          · cases heq
        · cases heq; exact Nat.le_refl _
      · trivial
    · exact Nat.le_refl _
  · split
    · trivial
    · rename_i heq
      have h:=bK heq
      repeat' split
      all_goals first
        | trivial
        | exact h
        | (refine Nat.le_trans h ?_; dsimp only; apply bK; assumption)
        | (refine Nat.le_trans h ?_; dsimp only; apply jH; assumption)
theorem aER (w:World) (c:Nat):(drain w c).2.drawn=w.drawn:=by
  unfold drain
  split <;> rfl
theorem uP (m:Machine) (k:Nat) (t:Timer) (a b:Nat):(retime m k t a b).2.world.drawn=m.world.drawn:=by
  unfold retime
  dsimp only
  split
  · exact aER ..
  · rfl
theorem xO {m m':Machine} {var:Addr} {f:Nat→Timer→Value × Machine} {v:Value} (hf:∀ k t,(f k t).2.world.drawn=m.world.drawn) (h:timerOp.named m var f=.ok (v,m')):m'.world.drawn=m.world.drawn:=by
  unfold timerOp.named at h
  split at h
  · rename_i k _
    have:=hf k (m.rest.timers.getD k default)
    cases hx:f k (m.rest.timers.getD k default)
    rw [hx] at h this
    cases h
    exact this
  · cases h
theorem aAV {m m':Machine} {op:TimerOp} {v:Value} (h:timerOp m op=.ok (v,m')):m'.world.drawn=m.world.drawn:=by
  unfold timerOp at h
  split at h
  · split at h
    · cases h; rfl
    · split at h
      · split at h
        · cases h
        · cases h; rfl
      · cases h
  · exact xO (fun k t=>uP ..) h
  · split at h
    · rename_i m2 heq
      have h2:m2.world.drawn=m.world.drawn:=by
        unfold timerOp.opened at heq
        split at heq
        · split at heq
          · cases heq; rfl
          · cases heq
        · cases heq; rfl
      exact xO (fun k t=>(uP ..).trans h2) h
    · cases h
  · cases h; rfl
theorem aEW (p:Program) (m:Machine) (k:Nat):Sup m.world.drawn (serve p m k):=by
  unfold serve
  split
  · trivial
  · exact Nat.le_refl _
  · dsimp only
    split
    · trivial
    · exact Nat.le_refl _
theorem aG1 (p:Program) (m:Machine) (i:Nat) (l:Bool):Sup m.world.drawn (Go.runT p m i l).1:=by
  unfold Go.runT
  dsimp only
  have h:=aEB p (i == 0) (m.gs.swapAt! i { (default:Goroutine) with status:=.finished }).1 m.world l
  split
  all_goals (rename_i heq; rw [heq] at h; try dsimp only [Gup] at h)
  · trivial
  · have h2:=qE p m.rest (m.gs.swapAt! i { (default:Goroutine) with status:=.finished }).2 i ‹_› ‹_› ‹_› ‹_› ‹_›
    generalize communicate p m.rest _ i _ _ _ _ _=c at h2 ⊢
    obtain ⟨r,more⟩:=c
    dsimp only at h2 ⊢
    cases r with
    | next m'=>exact Nat.le_trans h h2
    | ended=>trivial
  · exact h
  · exact h
  · split
    · trivial
    · exact h
  · exact h
  · exact (aB7 ..).le h
  · exact h
  · exact h
  · dsimp only
    split
    · exact h
    · exact h
    · trivial
  · dsimp only
    split
    · rename_i heq2
      exact Nat.le_trans h (Nat.le_of_eq (aAV heq2).symm)
    · exact h
    · trivial
    · trivial
def Mup (n:Nat):Move→Prop
  | .goroutine m _=>n≤m.world.drawn
  | .machine s _=>Sup n s
theorem Mup.le {n n':Nat} {g:Move} (h:Mup n' g) (hn:n≤n'):Mup n g:=by
  cases g with
  | goroutine=>exact Nat.le_trans hn h
  | machine s _=>exact Sup.le (n':=n') h hn
theorem vF (p:Program) (rs:List Nat) (m:Machine):Mup m.world.drawn (match (choose (.sched rs.length)).run p m.world with
      | .halt _ w=>.machine (.ended (.stuck "sched" "") w)
      | .ok k world =>
        if rs.length≤1 then .goroutine { m with world } (rs.getD k 0) else
        match (choose (.extern "sched.slice" 65536)).run p world with
        | .halt _ w=>.machine (.ended (.stuck "sched.slice" "") w)
        | .ok n world=>.goroutine { m with world,rest:={ m.rest with slice:=if n=0 then none else some (rs.getD k 0,n) } } (rs.getD k 0)):=by
  split
  · trivial
  · rename_i heq
    have h:=bK heq
    split
    · exact h
    · split
      · trivial
      · rename_i heq2; exact Nat.le_trans h (bK heq2)
theorem rY (p:Program) (m:Machine):Mup m.world.drawn (askOn p m):=by
  unfold askOn
  dsimp only
  split
  · trivial
  · rename_i k world heq
    have h:m.world.drawn≤world.drawn:=bK heq
    split
    · exact Sup.le (n':=world.drawn) (aEW ..) h
    · split
      · split
        · exact h
        · split
          · exact h
          · have h2:=rQ 0 world 2 (bytes ("fatal error: "++if (m.gs.any fun g=>g.status == .blocked||g.status == .parked)=true then "all goroutines are asleep - deadlock!" else "no goroutines (main called runtime.Goexit) - deadlock!")++bytes "\n") (.fatal "")
            split <;> trivial
      · split
        · exact (vF p _ { m with world }).le h
        · split
          · trivial
          · rename_i heq2
            exact (vF p _ { m with world:=_ }).le (Nat.le_trans h (bK heq2))
          · rename_i heq2
            have h3:=bK heq2
            exact Nat.le_trans h h3
          · rename_i heq2
            have h3:=bK heq2
            exact (vF p _ (Machine.advanceTo { m with world:=_ } _)).le (Nat.le_trans h h3)
theorem aA7 (p:Program) (m:Machine):Mup m.world.drawn (Go.ask p m):=by
  unfold Go.ask
  split
  · split
    · trivial
    · rename_i world heq
      have h:m.world.drawn≤world.drawn:=bK heq
      have h2:=aB7 p m.gs m.rest world
      split
      · rename_i m' heq2
        rw [heq2] at h2
        exact (rY p m').le (Nat.le_trans h h2)
      · exact Sup.le (n':=world.drawn) h2 h
    · rename_i world heq _
      exact (rY p { m with world:=_ }).le (bK (by assumption))
  · exact rY ..
theorem aGU (p:Program) (m:Machine):Mup m.world.drawn (move p m):=by
  unfold move
  split
  · split
    · exact Nat.le_refl _
    · trivial
  · split
    · split
      · exact Nat.le_refl _
      · exact aA7 p { m with rest:=_ }
    · exact aA7 ..
theorem aFZ {p:Program} {m m':Machine} (h:step p m=.next m'):m.world.drawn≤m'.world.drawn:=by
  have h1:=aGU p m
  unfold step stepT at h
  split at h
  · rename_i m1 i1 heq
    rw [heq] at h1
    have h2:=aG1 p m1 i1 true
    rw [h] at h2
    exact Nat.le_trans h1 h2
  · rename_i heq
    rw [heq] at h1
    dsimp only at h
    subst h
    exact h1
theorem wz {p:Program}:∀ (n:Nat) {m m':Machine},runN p n m=.next m'→m.world.drawn≤m'.world.drawn
  | 0,m,m',h=>by
    simp only [runN,Stepped.next.injEq] at h
    rw [h]; exact Nat.le_refl _
  | n+1,m,m',h=>by
    unfold runN at h
    split at h
    · rename_i heq
      exact Nat.le_trans (aFZ heq) (wz n h)
    · rename_i hn
      exact absurd h (hn _)
theorem aEZ {P:Program} {fr fr':Frame} {cs cs':List Frame} {w w':World} {e:Ending} (h:Comes P (lone fr cs w) (lone fr' cs' w') e):e=.outgrown∨w.drawn≤w'.drawn:=by
  cases e with
  | outgrown=>exact .inl rfl
  | returned v=>obtain ⟨n,hn⟩:=h; exact .inr (wz n hn)
  | panicked c=>obtain ⟨n,hn⟩:=h; exact .inr (wz n hn)
theorem aDw {P:Program} {f:FuncId} {args:Array Value} {w:World} {R:Ending→World→Prop} (h:Calls P f args w R) :
    Calls P f args w fun e w'=>R e w'∧(e=.outgrown∨w.drawn≤w'.drawn):=fun cs=>by
  obtain ⟨e,w',fr,h1,h2,h3⟩:=h cs
  exact ⟨e,w',fr,⟨h1,aEZ h2⟩,h2,h3⟩
theorem St.grown {w w':World} {M:List Asr} (h:St w w' noX [] M) (hd:w.drawn≤w'.drawn):∃ q os',w'=grow (w.drewN q) os':=by
  refine ⟨w'.drawn-w.drawn,w'.heap.extract w.heap.size w'.heap.size,?_⟩
  have hh:w'.heap=w.heap++w'.heap.extract w.heap.size w'.heap.size:=by
    apply Array.ext_getElem?
    intro i
    by_cases hi:i<w.heap.size
    · rw [Array.getElem?_append_left hi]
      exact h.old i hi (fun h=>h)
    · have hs:=h.size
      rw [Array.getElem?_append_right (by omega),Array.getElem?_extract]
      by_cases h2:i<w'.heap.size
      · rw [if_pos (by omega)]
        congr 1
        omega
      · rw [if_neg (by omega),Array.getElem?_eq_none (by omega)]
  obtain ⟨hp',tp,dr,os,out⟩:=w'
  have h1:=h.os; have h2:=h.tape; have h3:=h.output
  simp only at h1 h2 h3 hh hd
  subst h1 h2 h3
  unfold grow World.drewN
  simp only [World.mk.injEq,and_true,true_and]
  exact ⟨hh,by omega⟩
theorem aC6 {P:Program} {f:FuncId} {args:Array Value} {w:World} {G:Type} {rv:G→Value} {Q:G→World→Prop} (h:Ret P f args w rv Q) (hQ:∀ g w',Q g w'→∃ M,St w w' noX [] M) :
    Calls P f args w fun e w'=>∃ g,e=.returned (rv g)∧Q g w'∧∃ q os',w'=grow (w.drewN q) os' :=
  Calls.mono (aDw h) fun e w' h=>by
    obtain ⟨⟨g,he,hq⟩,hu⟩:=h
    obtain ⟨M,hM⟩:=hQ g w' hq
    refine ⟨g,he,hq,hM.grown (hu.resolve_left (fun h=>?_))⟩
    rw [h] at he
    cases he
end Go.SL

namespace Go.SL
open Go Go.Proofs Go.Shelf Go.RowKit Go.Sort Go.Lib
section
variable {T:Type} [Inhabited T] {E:T→Value}
theorem aDI {w:World} {g:Nat} {cur:Array Value} {e:TypeId} {l:List T} (hb:w.heap[g]? = some (.cells cur e (0,0))) (ht:cur.toList.take l.length=l.map E):Holds E w g 0 l.toArray:=by
  intro j hj
  have hj:j<l.length:=by simpa using hj
  refine ⟨?_,by simp [World.frozen?,hb]⟩
  have h1:(cur.toList.take l.length)[j]? = (l.map E)[j]?:=by rw [ht]
  rw [List.getElem?_take_of_lt hj,Array.getElem?_toList,List.getElem?_map,List.getElem?_eq_getElem hj] at h1
  simp only [World.cell?,hb,Nat.zero_add,Option.isSome_none,Bool.false_eq_true,if_false]
  rw [h1]
  simp [hj]
theorem aCD (cur:Array Value) (l:List T) (h:l.length≤cur.size):(putCells E 0 l.toArray cur).toList.take l.length=l.map E:=by
  apply List.ext_getElem?
  intro j
  by_cases hj:j<l.length
  · rw [List.getElem?_take_of_lt hj,Array.getElem?_toList]
    simp [putCells,hj,show j<cur.size by omega]
  · rw [List.getElem?_take_eq_none (by omega),List.getElem?_eq_none (by rw [List.length_map]; omega)]
theorem aCR {w:World} {g n:Nat} {os:Array Obj} {cur:Array Value} {e:TypeId} {fr:Nat × Nat} (F:Array T) (hb:w.heap[g]? = some (.cells cur e fr)) :
    (grow (putRow E (Sort.ahead w n) g 0 F) os).heap[g]? = some (.cells (putCells E 0 F cur) e fr):=by
  have hg:g<w.heap.size:=(Array.getElem?_eq_some_iff.1 hb).1
  rw [heap_grow_old _ _ (by simpa using hg)]
  simp [putRow,mapBlock,Sort.ahead,Array.getElem?_modify,hb,onCells]
theorem mH {w:World} {g n:Nat} {os:Array Obj} (F:Array T):w.grownBy (grow (putRow E (Sort.ahead w n) g 0 F) os) (some g):=by
  refine ⟨rfl,rfl,rfl,by simp,fun k hk hne=>?_⟩
  rw [heap_grow_old _ _ (by simpa using hk)]
  have:g≠k:=fun e=>hne (by rw [e])
  simp [putRow,mapBlock,Sort.ahead,Array.getElem?_modify,this]
theorem aF9 {P:Program} {ρ:Ren} {f g:FuncId} (lay:SlLaysF.n6 P ρ) (hf:ρ.f 6=f) (h1:OneCell E)
    (cf:T→T→Int) (hO:SWO (ltOf cf)) (hT:∀ x y,(ltOf cf) x y=false→(ltOf cf) y x=false→x=y) (eg:∀ args w,(callFunc g args).run P w=.ok (.enter g args) w)
    (e:TypeId) (v:Value) (l:List T) (w0:World) (hX:dS (hp w0) e 1 v l.length (l.map E)) (hl:l.length≤10000)
    (hc:∀ x y W,w0.heap.size≤W.heap.size→(∀ b,b<w0.heap.size→v.ownBlock≠some b→W.heap[b]? = w0.heap[b]?)→Calls P g #[E x,E y] W fun e w'=>e=.returned (.int .i64 (cf x y))∧∃ q os',w'=grow (W.drewN q) os') :
    Ret P f #[v,.func (.func g) #[] #[]] w0 (G:=Unit) (fun _=>.tuple #[]) (fun _ w=>St w0 w (fun k=>v.ownBlock=some k) [] [sl e 1 v l.length ((o8 (ltOf cf) l).map E)]):=by
  subst hf
  have hlen:=yB (ltOf cf) l
  have hS:=St.own hX
  rcases hX.2 with ⟨rfl,hn⟩ | ⟨b,cap,cur,rfl,hg,q1,q2,q3,q4⟩
  · obtain rfl:l=[]:=List.eq_nil_of_length_eq_zero hn
    refine Calls.mono (AnyF.slices_SortFunc_none { lay with } none 0 _ w0) ?_
    rintro e w ⟨rfl,rfl⟩
    refine ⟨(),rfl,?_⟩
    rw [show o8 (ltOf cf) ([]:List T)=[] from by simp [o8]]
    exact hS
  · have hb:w0.heap[b]? = some (.cells cur e (0,0)):=hg
    have hgl:=(Array.getElem?_eq_some_iff.1 hb).1
    rw [Nat.mul_one] at q3 q4
    have hH:Holds E w0 b 0 l.toArray:=aDI hb q4
    have hcl:CmpLays1 P g #[] E cf b 0 l.toArray.size w0:=fun m os dk _ x y=>by
      refine hc x y _ ?_ ?_
      · unfold sortWorld
        have:=(mH (E:=E) (w:=w0) (g:=b) (n:=m) (os:=os) dk).size
        exact this
      · intro b' hb' hne
        unfold sortWorld
        exact (mH (E:=E) (w:=w0) (g:=b) (n:=m) (os:=os) dk).block b' hb' (fun h=>hne h.symm)
    have hcon:=Any.slices_SortFunc_total lay E h1 cf hO g #[] b 0 cap l.toArray w0 eg hcl hH hgl (by simp; omega) hT
    refine Calls.mono (by simpa using hcon) ?_
    rintro e' w ⟨rfl,n,os,rfl⟩
    refine ⟨(),rfl,?_⟩
    rw [show l.mergeSort (fun x y=>!ltOf cf y x)=o8 (ltOf cf) l from rfl]
    unfold sortWorld
    have hgb:=mH (E:=E) (w:=w0) (g:=b) (n:=n) (os:=os) (o8 (ltOf cf) l).toArray
    have hhp:=aCR (E:=E) (n:=n) (os:=os) (o8 (ltOf cf) l).toArray hb
    generalize grow (putRow E (Sort.ahead w0 n) b 0 (o8 (ltOf cf) l).toArray) os=w at hgb hhp
    have hok:dS (hp w) e 1 (.slice (some ⟨b,0,none⟩) l.length cap) l.length ((o8 (ltOf cf) l).map E):=by
      refine ⟨by rw [List.length_map,hlen,Nat.mul_one],.inr ⟨b,cap,_,rfl,hhp,q1,q2,by simp [putCells,q3],?_⟩⟩
      rw [Nat.mul_one,← hlen]
      exact aCD cur _ (by omega)
    exact hS.write (i:=0) (p:=sl e 1 (.slice (some ⟨b,0,none⟩) l.length cap) l.length (l.map E)) rfl hgb.os hgb.tape hgb.output hgb.size (fun b' hb' hne=>hgb.block b' hb' (fun e=>hne (by
      simp only [Option.some.injEq] at e; subst e; rfl))) hok (fun b' hb'=>⟨.inl hb',by
        have:b=b':=by simpa [sl,Value.ownBlock] using hb'
        have:=hgb.size; omega⟩)
end
theorem St.lts {w0 w:World} {X:Nat→Prop} {B M BL:List Asr} (hS:St w0 w X B M) (h:∀ w1 X1 M1,St w1 w1 X1 (M++B) M1→∀ p ∈ BL,Lt w1 X1 p):∀ p ∈ BL,p.holds (hp w)∧∀ b,p.fp b→b<w.heap.size:=fun p hp =>
  (fun h=>⟨h.1,fun b hb=>(h.2 b hb).1⟩) (h w _ [] (St.focus (M:=[]) hS) p hp)
end Go.SL

set_option maxHeartbeats 1000000
set_option maxRecDepth 8000
namespace Go.Proofs.YtipfobacinmoiaaGreat
open Go Go.SL Go.Shelf Go.RowKit Go.Maps
theorem aFl:aW Tryz.prog 26=true:=by kernel_rfl
theorem aFo:aW Tryz.prog 27=true:=by kernel_rfl
theorem aF0:aW Tryz.prog 28=true:=by kernel_rfl
theorem aFq:aW Tryz.prog 30=true:=by kernel_rfl
theorem yU (fW fH:Nat) (least:Int) (vP:Value) (zs:List Int) (hW:1≤fW∧fW≤100) (hH:1≤fH∧fH≤100) (hn:zs.length=fW*fH) (hls:1≤least):∀ m (lv:List Int),lv.length≤m→aIm fW fH least vP zs lv
  | m,lv,hm,b1,b2,b3,b4,vL,vv,l,hok,hft=>by
    intro l0 γ U Fc g w1 hF hS hround; have h:=aIg fW fH least vP vL vv zs l lv b1 b2 b3 b4 l0 w1 γ U Fc g hW hH hn hls hok hft (fun n hn'=>by
      cases m with
      | zero=>omega
      | succ m=>exact yU fW fH least vP zs hW hH hn hls m (lv.drop (n+1)) (by rw [List.length_drop]; omega)) hF hS hround
    exact Calls.mono h (fun e w' ⟨g',he,h⟩=>⟨⟨_,he⟩,g',h⟩)
set_option maxHeartbeats 1000000 in
set_option maxRecDepth 4000 in
theorem aIB (va vb:Value) (x y:List Int) (w0:World) (hx:0<x.length) (hy:0<y.length) (ha:aR (hp w0) 1 va x.length (ints x)) (hb:aR (hp w0) 1 vb y.length (ints y)) :
    Ret Tryz.prog 31 #[va,vb] w0 (G:=Unit) (fun _=>iV (Det.iH (x.getD 0 0) (y.getD 0 0))) (fun _ w=>St w0 w noX [] []):=by
  refine aP (lv:=[va,vb]) Tryz.func31 rfl rfl rfl (fun a hf=>?_); replace hf:Fr a 12 [] [(0,va),(1,vb)]:=hf; have hS:St w0 w0 noX [rI va x,rI vb y] []:=((St.refl w0).bP hb).bP ha; refine W.seq ?_
  refine R1 rfl<|mv hf rfl<|fun a hf=>?_; refine nk<|W.seq<|?_
  refine W.dP (fun w=>St w0 w noX [rI va x,rI vb y] []) aS rfl (by kernel_rfl) rfl hS.drew ?_; clear hS; refine q0 hf rfl rfl fun a hf=>OQ.val (v:=ix va 0) hf rfl (fun w hS=>aA.ixV (j:=0) (m:=0) aB aC rfl rfl (hS.aL (j:=0) rfl) rfl (by omega) (Nat.mul_one _)) fun a hf=>OQ.val (v:=iV (x.getD 0 0)) hf rfl (fun w hS=>aA.ld1 aI rfl (hS.aL (j:=0) rfl) (aH (by omega))) fun a hf=>q0 hf rfl rfl fun a hf=>OQ.val (v:=ix vb 0) hf rfl (fun w hS=>aA.ixV (j:=0) (m:=0) aB aC rfl rfl (hS.aL (j:=1) rfl) rfl (by omega) (Nat.mul_one _)) fun a hf=>OQ.val (v:=iV (y.getD 0 0)) hf rfl (fun w hS=>aA.ld1 aI rfl (hS.aL (j:=1) rfl) (aH (by omega))) fun a hf=>OQ.gX (v:=iV (Det.iH (x.getD 0 0) (y.getD 0 0))) hf rfl (fun w hS=>dJ.call (av:=#[iV (x.getD 0 0),iV (y.getD 0 0)]) aA9 rfl rfl rfl) (fun w hS=>aGm (x.getD 0 0) (y.getD 0 0) _) fun a hf=>OQ.val (v:=iV (Det.iH (x.getD 0 0) (y.getD 0 0))) hf rfl (fun w hS=>aA.assign rfl) fun a hf=>?_; refine OQ.nil ?_; intro w hS; refine aF<|W.ret<|bD hf rfl (aT.tmp rfl)<|?_; exact ⟨(),rfl,hS.sub (List.nil_sublist _) |>.noB⟩
theorem aJG:∀ args w,(callFunc 31 args).run Tryz.prog w=.ok (.enter 31 args) w:=enters_of Tryz.func31 (by kernel_rfl) rfl
open Go.Sort in
theorem yL (va:Value) (vs:List Value) (xss:List (List Int)) (w0:World) (hX:dS (hp w0) 26 1 va vs.length vs) (hvl:vs.length≤10000) (hpos:0<vs.length) (hia:bO (hp w0) vs xss) (hne:∀ q,q<vs.length→0<(xss.getD q []).length) (hap:∀ p q,p<vs.length→q<vs.length→Det.dz (xss.getD p [])=Det.dz (xss.getD q [])→p=q) (hsep:∀ b,(inn vs xss).fp b→va.ownBlock≠some b) :
    Ret Tryz.prog 30 #[va,.func (.func 31) #[] #[]] w0 (G:=List Nat) (fun _=>.tuple #[]) (fun is w=>St w0 w (fun b=>va.ownBlock=some b) [] [sl 26 1 va is.length (jZ vs is)]∧is.Perm (List.range vs.length)∧is.Pairwise (fun p q=>Det.dz (xss.getD p [])≤Det.dz (xss.getD q []))):=by
  let T:={i:Nat // i<vs.length}
  haveI:Inhabited T:=⟨⟨0,hpos⟩⟩
  let E:T→Value:=fun i=>vs.getD i.1 undef
  let cf:T→T→Int:=fun i j=>Det.iH (Det.dz (xss.getD i.1 [])) (Det.dz (xss.getD j.1 []))
  have hlt:∀ i j,ltOf cf i j=decide (Det.dz (xss.getD i.1 [])<Det.dz (xss.getD j.1 [])):=fun i j=>by
    unfold ltOf; exact decide_eq_decide.2 Det.aDs
  have hO:SWO (ltOf cf):=⟨fun x=>by rw [hlt]; simp,fun x y z h1 h2=>by rw [hlt,decide_eq_true_eq] at *; omega,fun x y z h1 h2=>by rw [hlt,decide_eq_false_iff_not] at *; omega⟩
  have hT:∀ x y,ltOf cf x y=false→ltOf cf y x=false→x=y:=fun x y h1 h2=>by
    rw [hlt,decide_eq_false_iff_not] at h1 h2
    exact Subtype.ext (hap _ _ x.2 y.2 (by omega))
  let l:List T:=(List.range vs.length).pmap (fun i hi=>⟨i,hi⟩) (fun i hi=>List.mem_range.1 hi)
  have hl1:l.map (·.1)=List.range vs.length:=by simp [l,List.map_pmap]
  have hll:l.length=vs.length:=by simp [l]
  have hlE:l.map E=vs:=by
    have:l.map E=(l.map (·.1)).map fun i=>vs.getD i undef:=by rw [List.map_map]; rfl
    rw [this,hl1,vD]
  have h1:OneCell E:=fun i=>by
    obtain ⟨_,_,A,c,he,_⟩:=hia.2 i.1 i.2
    show (vs.getD i.1 undef).oneCell'=true
    rw [he]; rfl
  have hc:=aF9 (E:=E) Tryz.sortS rfl h1 cf hO hT aJG 26 va l w0 (by rw [hll,hlE]; exact hX) (by omega) (fun x y W hs hb=>by
    have hin:bO (hp W) vs xss:=(inn vs xss).loc (hp w0) (hp W) (fun b hfb=>hb b (by obtain ⟨i,hi,h0,hbb⟩:=hfb; exact (hia.2 i hi).lt h0 hbb) (hsep b hfb)) hia
    refine Calls.mono (aC6 (aIB _ _ (xss.getD x.1 []) (xss.getD y.1 []) W (hne _ x.2) (hne _ y.2) (hin.get x.2) (hin.get y.2)) (fun g w' h=>⟨[],h⟩)) ?_
    rintro e w ⟨_,rfl,_,h⟩
    exact ⟨rfl,h⟩)
  refine Calls.mono hc ?_
  rintro e w ⟨_,rfl,hS⟩
  refine ⟨(o8 (ltOf cf) l).map (·.1),rfl,?_,?_,?_⟩
  · have e1:jZ vs ((o8 (ltOf cf) l).map (·.1))=(o8 (ltOf cf) l).map E:=by unfold jZ; rw [List.map_map]; rfl
    rw [e1,List.length_map,yB]
    exact hS
  · rw [← hl1]; exact (List.mergeSort_perm l _).map _
  · rw [List.pairwise_map]
    have hp:=List.pairwise_mergeSort (le:=fun x y=>!ltOf cf y x) (fun a b c h1 h2=>by
      rw [Bool.not_eq_true'] at *; exact hO.ntrans _ _ _ h2 h1) (fun a b=>by
      rw [hlt,hlt]; simp only [Bool.or_eq_true,Bool.not_eq_true',decide_eq_false_iff_not]; omega) l
    refine hp.imp fun {a b} h=>?_
    rw [Bool.not_eq_true',hlt,decide_eq_false_iff_not] at h
    omega
set_option maxHeartbeats 1000000 in
set_option maxRecDepth 4000 in
theorem sW (fW fH:Nat) (least:Int) (vP vL vv:Value) (zs l lv:List Int) (w0:World) [Decidable (Det.conn fW fH l)] [Decidable (Det.rising lv)] (hfo:Det.bC (fW:Int) (fH:Int) zs) (hW:1≤fW∧fW≤100) (hH:1≤fH∧fH≤100) (hn:zs.length=fW*fH) (hP:aR (hp w0) 1 vP zs.length (ints zs)) (hL:aR (hp w0) 1 vL l.length (ints l)) (hv:aR (hp w0) 1 vv lv.length (ints lv)) (hft:vfit vv) :
    Ret Tryz.prog 9 #[(fG fW fH vP),vL,vv,iV least] w0 (G:=Value × List Value) (fun g=>.tuple #[g.1,iV (Det.iW (fW:Int) (fH:Int) least zs l lv)]) (fun g w=>St w0 w noX [] [sl 26 1 g.1 g.2.length g.2,inn g.2 (Det.mI (fW:Int) (fH:Int) least zs l lv)]):=by
  refine aP (lv:=[(fG fW fH vP),vL,vv,iV least]) Tryz.func9 rfl rfl rfl (fun a hf=>?_); replace hf:Fr a 45 [] [(0,(fG fW fH vP)),(1,vL),(2,vv),(3,iV least)]:=hf; have hS:St w0 w0 noX [rI vP zs,rI vL l,rI vv lv] []:=(((St.refl w0).bP hv).bP hL).bP hP; have hN:fW*fH≤10000:=Nat.mul_le_mul hW.2 hH.2; have hlen:=hL.2.1; unfold maxLen at hlen; have hlev:=hv.2.1; unfold maxLen at hlev; refine W.seq ?_
  refine R3 rfl<|O.box (cs:=#[iV fW,iV fH,vP]) hf hS rfl rfl rfl rfl<|?_; intro b_f1 w a hbb_f1 hS hf; refine mv hf rfl fun a hf=>mv hf rfl fun a hf=>?_; refine nk<|W.seq<|W.seq<|?_
  refine R3 rfl<|ov hf rfl (aA.cO (cs':=#[iV fW,iV fH,vP]) bR bH rfl (hS.p 0 rfl) (bl rfl) rfl)<|fun a hf=>?_; refine oc hf rfl aFH (aAF (fW:Int) (fH:Int) vP zs _ hfo (hS.aL (j:=0) rfl)) ?_; clear hf a; rintro _ w2 hS1 a hf; replace hS:=hS.cl hS1; refine mv hf rfl fun a hf=>?_; refine nk<|W.seq<|?_
  refine R2 rfl<|mv hf rfl<|fun a hf=>ov hf rfl (aA.toB (c:=false) (aA.neq rfl rfl) (by decide)) fun a hf=>?_; refine nk<|W.fP hf rfl<|W.skip<|aF<|W.seq<|W.seq<|?_
  refine R3 rfl<|mv hf rfl<|fun a hf=>ov hf rfl (aA.bL (e:=2) (by simpa using aU) rfl (hS.aL (j:=2) rfl)) fun a hf=>ov (v:=.bool (decide ((lv.length:Int)>(20:Int)))) hf rfl (aA.gtr rfl rfl) fun a hf=>?_; refine nk ?_; refine W.bF hf rfl (fun h20=>?_) (fun h20=>?_)
  · refine W.seq ?_
    refine R2 rfl<|mv hf rfl<|fun a hf=>mv hf rfl fun a hf=>?_; refine nk<|W.ret<|aK<|jE hf rfl (aT.tmp rfl) (aT.tmp rfl)<|?_; have he:=Det.aFG (least:=least) (px:=l) hfo (show 20<lv.length by omega); refine ⟨(.slice none 0 0,[]),by rw [he.1],?_⟩; rw [he.2]; exact St.aEw (hS.sub (List.nil_sublist _) |>.noB) 26
  · refine W.skip ?_
    refine aF<|W.seq<|?_
    refine R4 rfl<|ov hf rfl (aA.cO (cs':=#[iV fW,iV fH,vP]) bR bH rfl (hS.p 0 rfl) (bl rfl) rfl)<|fun a hf=>ov hf rfl (aA.aDz (cs':=#[iV fW,iV fH,vP]) yM uT rfl rfl) fun a hf=>?_; refine O.alloc (cs:=#[iV 0,iV 0,.slice none 0 0]) hf hS rfl rfl uT rfl ?_; intro b_m4 w a hbb_m4 hS hf; have hcl5:=aR.cells (hS.aL (j:=0) rfl); refine ost 0 #[iV fW,iV fH,vP] hf hS rfl rfl rfl dR rfl (fE rfl (fE rfl (fE hcl5.2 rfl))) rfl (bl rfl) rfl ?_; intro w hS; refine nk<|W.seq<|W.seq<|?_
    refine W.aY (l:=[0,1,2,3,4,5,6,7,8,9,10,11,12]) rfl<|ov hf rfl (aA.cO (cs':=#[iV fW,iV fH,vP]) eH dR rfl (hS.p 0 rfl) (bl rfl) rfl)<|fun a hf=>?_; refine mv hf rfl fun a hf=>?_; refine oc hf rfl aFl (yJ fW fH vP vL zs l _ hW hH hn (hS.aL (j:=0) rfl) (hS.aL (j:=1) rfl)) ?_; clear hf a; rintro _ w6 hS1 a hf; replace hS:=hS.cl hS1; refine ov (v:=.bool (!(decide (Det.conn fW fH l)))) hf rfl (aA.not rfl) fun a hf=>mv hf rfl fun a hf=>?_
    refine O.fA (l₁:=[5,6,7,8]) (l₂:=_) (fun a w=>Fr a 45 [] [(1,vL),(2,vv),(3,iV least),(8,.slice none 0 0),(9,iV 0),(11,(pp b_m4)),(31,.bool ((!(decide (Det.conn fW fH l)))||(!(decide (Det.rising lv)))))]∧St w0 w noX [rI vP zs,rI vL l,rI vv lv] [pt b_m4 (.cells #[iV fW,iV fH,vP] 61 (0,0)),pt b_f1 (.cells #[iV fW,iV fH,vP] 24 (0,0))]) rfl ?_ ?_
    · rcases Bool.eq_false_or_eq_true (!(decide (Det.conn fW fH l))) with hb7 | hb7
      · have hb7p:=hb7
        try simp only [bsm] at hb7p
        refine sk hf rfl hb7 fun a hf=>sk hf rfl hb7 fun a hf=>sk hf rfl hb7 fun a hf=>?_; refine ov (v:=.bool ((!(decide (Det.conn fW fH l)))||(!(decide (Det.rising lv))))) hf rfl (aA.pick rfl rfl rfl (by rw [hb7]; rfl)) fun a hf=>?_; exact O.nil ⟨rfl,hf.q rfl,hS⟩
      · have hb7p:=hb7
        try simp only [bsm] at hb7p
        refine og (v:=vv) hf rfl hb7 (aA.move rfl) fun a hf=>?_; refine O.iG hf rfl rfl rfl hb7 rfl rfl (dJ.call (av:=#[vv]) aFo rfl rfl rfl) (sH vv lv _ (hS.aL (j:=2) rfl)) ?_; clear hf a; rintro _ w8 hS1 a hf; replace hS:=hS.cl hS1; refine og (v:=.bool (!(decide (Det.rising lv)))) hf rfl hb7 (aA.not rfl) fun a hf=>?_; refine ov (v:=.bool ((!(decide (Det.conn fW fH l)))||(!(decide (Det.rising lv))))) hf rfl (aA.pick rfl rfl rfl (by rw [hb7]; rfl)) fun a hf=>?_; exact O.nil ⟨rfl,hf.q rfl,hS⟩
    clear hf hS a; rintro a w ⟨hf,hS⟩; refine mv hf rfl fun a hf=>?_
    refine O.fA (l₁:=[10,11,12]) (l₂:=_) (fun a w=>Fr a 45 [] [(1,vL),(2,vv),(3,iV least),(8,.slice none 0 0),(9,iV 0),(11,(pp b_m4)),(35,.bool (((!(decide (Det.conn fW fH l)))||(!(decide (Det.rising lv))))||(decide (least<(1:Int)))))]∧St w0 w noX [rI vP zs,rI vL l,rI vv lv] [pt b_m4 (.cells #[iV fW,iV fH,vP] 61 (0,0)),pt b_f1 (.cells #[iV fW,iV fH,vP] 24 (0,0))]) rfl ?_ ?_
    · rcases Bool.eq_false_or_eq_true ((!(decide (Det.conn fW fH l)))||(!(decide (Det.rising lv)))) with hb9 | hb9
      · have hb9p:=hb9
        try simp only [bsm] at hb9p
        refine sk hf rfl hb9 fun a hf=>sk hf rfl hb9 fun a hf=>?_; refine ov (v:=.bool (((!(decide (Det.conn fW fH l)))||(!(decide (Det.rising lv))))||(decide (least<(1:Int))))) hf rfl (aA.pick rfl rfl rfl (by rw [hb9]; rfl)) fun a hf=>?_; exact O.nil ⟨rfl,hf.q rfl,hS⟩
      · have hb9p:=hb9
        try simp only [bsm] at hb9p
        refine og (v:=iV least) hf rfl hb9 (aA.move rfl) fun a hf=>og (v:=.bool (decide (least<(1:Int)))) hf rfl hb9 (aA.lss rfl rfl) fun a hf=>?_; refine ov (v:=.bool (((!(decide (Det.conn fW fH l)))||(!(decide (Det.rising lv))))||(decide (least<(1:Int))))) hf rfl (aA.pick rfl rfl rfl (by rw [hb9]; rfl)) fun a hf=>?_; exact O.nil ⟨rfl,hf.q rfl,hS⟩
    clear hf hS a; rintro a w ⟨hf,hS⟩; refine nk ?_; refine W.if_ hf rfl (fun hbad=>?_) (fun hbad=>?_)
    · have hbadb:=hbad
      try simp only [bsm] at hbad
      refine W.seq ?_
      refine R2 rfl<|mv hf rfl<|fun a hf=>mv hf rfl fun a hf=>?_; refine nk<|W.ret<|aK<|jE hf rfl (aT.tmp rfl) (aT.tmp rfl)<|?_; have he:=Det.aA1 (least:=least) hfo (show ¬ 20<lv.length by omega) (fun h3=>by obtain ⟨h4,h5,h6⟩:=h3; rw [Int.toNat_natCast,Int.toNat_natCast] at h4; rcases hbad with (hb1 | hb1) | hb1 <;> first | exact hb1 h4 | exact hb1 h5 | omega); refine ⟨(.slice none 0 0,[]),by rw [he.1],?_⟩; rw [he.2]; exact St.aEw (hS.sub (List.nil_sublist _) |>.noB) 26
    · have hbadb:=hbad
      try simp only [bsm] at hbad
      have hgood:Det.conn fW fH l∧Det.rising lv∧1≤least:=by
        simp only [Bool.or_eq_false_iff,Bool.not_eq_false',decide_eq_true_eq,decide_eq_false_iff_not] at hbadb; exact ⟨hbadb.1.1,hbadb.1.2,by omega⟩
      have hset:=Det.qj hgood.1; refine W.skip<|aF<|W.seq<|?_
      refine R7 rfl<|ov hf rfl (aA.cO (cs':=#[iV fW,iV fH,vP]) eH dR rfl (hS.p 0 rfl) (bl rfl) rfl)<|fun a hf=>mv hf rfl fun a hf=>mv hf rfl fun a hf=>mv hf rfl fun a hf=>?_; refine oc hf rfl aBh (aGx fW fH least vP vL vv zs l lv _ (hS.aL (j:=0) rfl) (hS.aL (j:=1) rfl) (hS.aL (j:=2) rfl)) ?_; clear hf a; rintro gb w11 hS1 a hf; replace hS:=hS.cl hS1; have hdl:=Det.aAE (P:=zs) (levels:=lv) hgood.2.2 hset; have hBB:=hS.lts (BL:=xY fW fH least vP vL vv zs l lv gb.1 gb.2.1 gb.2.2.1 gb.2.2.2) (by
          intro w1 X1 M1 hS p hp; simp only [xY,List.mem_cons,List.not_mem_nil,or_false] at hp
          rcases hp with rfl | rfl | rfl | rfl | rfl | rfl | rfl
          · exact Lt.at hS (i:=0) rfl
          · exact Lt.at hS (i:=1) rfl
          · exact Lt.at hS (i:=2) rfl
          · exact Lt.at hS (i:=3) rfl
          · exact Lt.at hS (i:=6) rfl
          · exact Lt.at hS (i:=7) rfl
          · exact Lt.at hS (i:=8) rfl)
      refine oc hf rfl aF0 (aId gb.1 gb.2.1 gb.2.2.1 gb.2.2.2 (Det.aM zs fW fH least lv l) _ _ (yU fW fH least vP zs hW hH hn hgood.2.2 lv.length lv (Nat.le_refl _) gb.1 gb.2.1 gb.2.2.1 gb.2.2.2 vL vv l hset hft) hBB (by omega)) ?_; clear hf a; rintro ⟨vo,sts⟩ w12 hS1 a hf; try dsimp only at hS1 hf; replace hS:=hS.cl hS1; refine mv hf rfl fun a hf=>?_; refine nk<|W.seq<|?_
      refine R2 rfl<|mv hf rfl<|fun a hf=>?_; have hstl:=(hS.iI (j:=1) rfl).1
      try dsimp only at hstl
      have hapt:=Det.iN (P:=zs) hgood.2.2 lv hset; refine oc hf rfl aFq (yL vo sts (Det.aM zs fW fH least lv l) _ (hS.jB (j:=0) rfl) (by omega) (by have:=Det.zf (P:=zs) (levels:=lv) hgood.2.2 hset; omega) (hS.iI (j:=1) rfl) (fun q hq=>Det.aAQ hapt.ne (by omega)) (fun p q hp hq=>Det.aCb hapt p q (by omega) (by omega)) (fun b hb e=>hS.sep.disj (i:=1) (j:=0) rfl rfl (by decide) b hb e)) ?_; clear hf a; rintro is w13 ⟨hS1,hpm,hsr⟩ a hf; replace hS:=(hS.bq hS1 (i:=0) rfl (fun _ h=>h)).eqM (N:=[sl 26 1 vo is.length (jZ sts is),inn sts (Det.aM zs fW fH least lv l),pt gb.1 (.cells #[vv] 22 (0,0)),pt gb.2.1 (.cells #[vL] 26 (0,0)),pt gb.2.2.1 (.cells #[iV fW,iV fH,vP] 61 (0,0)),pt gb.2.2.2 (.cells #[iV least] 3 (0,0)),pt b_m4 (.cells #[iV fW,iV fH,vP] 61 (0,0)),pt b_f1 (.cells #[iV fW,iV fH,vP] 24 (0,0))]) rfl; have hfin:kS (Det.aM zs fW fH least lv l) is=Det.bW (Det.aM zs fW fH least lv l):=Det.zT hapt (aAa (by rw [← hstl]; exact hpm)) (by unfold kS; rw [List.pairwise_map]; exact hsr); replace hS:=(hS.aFQ (is:=is) (j:=1) rfl (fun i hi=>List.mem_range.1 (hpm.mem_iff.1 hi))).eqM (N:=[sl 26 1 vo is.length (jZ sts is),inn (jZ sts is) (kS (Det.aM zs fW fH least lv l) is),pt gb.1 (.cells #[vv] 22 (0,0)),pt gb.2.1 (.cells #[vL] 26 (0,0)),pt gb.2.2.1 (.cells #[iV fW,iV fH,vP] 61 (0,0)),pt gb.2.2.2 (.cells #[iV least] 3 (0,0)),pt b_m4 (.cells #[iV fW,iV fH,vP] 61 (0,0)),pt b_f1 (.cells #[iV fW,iV fH,vP] 24 (0,0))]) rfl; refine nk<|W.seq<|?_
      refine R3 rfl<|mv hf rfl<|fun a hf=>mv hf rfl fun a hf=>mv hf rfl fun a hf=>?_; refine nk<|W.ret<|jE hf rfl (aT.tmp rfl) (aT.tmp rfl)<|?_; replace hS:=hS.fr 1; replace hS:=hS.fr 1; have he:=Det.aAu (least:=least) (zs:=zs) (px:=l) (lv:=lv) hfo (show ¬ 20<lv.length by omega) ⟨by rw [Int.toNat_natCast,Int.toNat_natCast]; exact hgood.1,hgood.2.1,hgood.2.2⟩; rw [Int.toNat_natCast,Int.toNat_natCast] at he; refine ⟨(vo,jZ sts is),by rw [he.1],?_⟩; rw [he.2,← hfin]; exact ((hS.sub (.cons_cons _ (.cons_cons _ (.cons _ (.cons _ (.cons _ (.cons _ (.cons _ (.cons _ .slnil))))))))).noB).eqM (by rw [lV])
end Go.Proofs.YtipfobacinmoiaaGreat

namespace Go.RX
open Go Go.SL
inductive V where
  | c (v:Value)
  | ag (l:List V)
  | tu (l:List V)
  | p (e o:Nat)
  | q (e sz:Nat) (i:Int) (o:Nat)
  | sl (e:Nat)
  | sw (e sz:Nat) (a b:Int)
  | fn (f:FuncId) (l:List V)
  | bf (f:FuncId) (l:List V)
  | yd (e:Nat)
  | mp (e:Nat)
  | ez
  | un
structure Cd (α:Type) where
  sz:Nat
  enc:α→List V
  dec:List V→Option α
  hl:∀ x,(enc x).length=sz
  hd:∀ l x,dec l=some x→enc x=l
inductive Sc where
  | i (k:IntKind) | b | s
def Sc.ty:Sc→Type
  | .i _=>Int
  | .b=>Bool
  | .s=>ByteArray
def Sc.enc:(c:Sc)→c.ty→V
  | .i k,n=>.c (.int k n)
  | .b,x=>.c (.bool x)
  | .s,x=>.c (.string x)
def kEq:IntKind→IntKind→Bool
  | .i8,.i8 | .i16,.i16 | .i32,.i32 | .i64,.i64 | .u8,.u8 | .u16,.u16 | .u32,.u32 | .u64,.u64=>true
  | _,_=>false
theorem mR {k k':IntKind} (h:kEq k k'=true):k=k':=by cases k <;> cases k' <;> first | rfl | cases h
def Sc.dec:(c:Sc)→V→Option c.ty
  | .i k,.c (.int k' n)=>match kEq k k' with
    | true=>some n
    | false=>none
  | .b,.c (.bool x)=>some x
  | .s,.c (.string x)=>some x
  | _,_=>none
theorem Sc.aE7:∀ (c:Sc) (u:V) (x:c.ty),c.dec u=some x→c.enc x=u:=by
  intro c u x h
  unfold Sc.dec at h
  split at h
  · split at h
    · rename_i hk; have:=mR hk; subst this; cases h; rfl
    · cases h
  · cases h; rfl
  · cases h; rfl
  · cases h
def aDB (c:Sc):List Sc→Type
  | []=>c.ty
  | d::t=>c.ty × aDB d t
def ul (c:Sc):(l:List Sc)→aDB c l→List V
  | [],x=>[c.enc x]
  | d::t,x=>c.enc x.1::ul d t x.2
def yI (c:Sc):(l:List Sc)→List V→Option (aDB c l)
  | [],m=>match m with
    | u::r=>match r with
      | []=>c.dec u
      | _::_=>none
    | []=>none
  | d::t,m=>match m with
    | u::r=>match c.dec u with
      | some x=>match yI d t r with
        | some y=>some (x,y)
        | none=>none
      | none=>none
    | []=>none
theorem uy (c:Sc):∀ (l:List Sc) (x:aDB c l),(ul c l x).length=l.length+1
  | [],x=>rfl
  | d::t,x=>by
    have:=uy d t x.2
    simp only [ul,List.length_cons,this]
theorem yx (c:Sc):∀ (l:List Sc) (m:List V) (x:aDB c l),yI c l m=some x→ul c l x=m
  | [],[],x,h=>absurd (show none=some x from h) (by intro h; cases h)
  | [],[u],x,h=>congrArg (fun z=>[z]) (Sc.aE7 c u x h)
  | [],_::_::_,x,h=>absurd (show none=some x from h) (by intro h; cases h)
  | d::t,[],x,h=>absurd (show none=some x from h) (by intro h; cases h)
  | d::t,u::r,x,h=>by
    have h:(match c.dec u with
      | some x=>match yI d t r with
        | some y=>some (x,y)
        | none=>none
      | none=>none)=some x:=h
    cases h1:c.dec u with
    | none=>rw [h1] at h; exact absurd h (by intro h; cases h)
    | some y =>
      cases h2:yI d t r with
      | none=>rw [h1,h2] at h; exact absurd h (by intro h; cases h)
      | some z =>
        rw [h1,h2] at h
        injection h with h
        subst h
        show c.enc y::ul d t z=u::r
        rw [Sc.aE7 c u y h1,yx d t r z h2]
inductive Ck where
  | row (sz:Nat)
  | sc (c:Sc) (l:List Sc)
def xN:Nat→List V→List V
  | 0,_=>[]
  | n+1,[]=>.un::xN n []
  | n+1,u::t=>u::xN n t
theorem qD:∀ (n:Nat) (l:List V),(xN n l).length=n
  | 0,_=>rfl
  | n+1,[]=>by simp [xN,qD n]
  | n+1,_::t=>by simp [xN,qD n]
theorem aBL:∀ (l:List V),xN l.length l=l
  | []=>rfl
  | u::t=>by simp [xN,aBL t]
def Ck.ty:Ck→Type
  | .row _=>List V
  | .sc c l=>aDB c l
def Ck.cd:(k:Ck)→Cd k.ty
  | .row sz=>⟨sz,xN sz,fun l=>match Nat.beq l.length sz with
      | true=>some l
      | false=>none,qD sz,fun l x h=>by
        split at h
        · rename_i hb
          have:=Nat.eq_of_beq_eq_true hb
          injection h with h
          subst h; subst this
          exact aBL l
        · cases h⟩
  | .sc c l=>⟨l.length+1,ul c l,yI c l,uy c l,yx c l⟩
def Sc.eq:Sc→Sc→Bool
  | .i k,.i k'=>kEq k k'
  | .b,.b=>true
  | .s,.s=>true
  | _,_=>false
theorem Sc.aBm {c d:Sc} (h:c.eq d=true):c=d:=by
  unfold Sc.eq at h
  split at h
  · rw [mR h]
  · rfl
  · rfl
  · cases h
def aCt:List Sc→List Sc→Bool
  | [],[]=>true
  | c::t,d::t'=>c.eq d&&aCt t t'
  | _,_=>false
theorem aBq:∀ {l m:List Sc},aCt l m=true→l=m
  | [],[],_=>rfl
  | [],c::_,h=>by simp [aCt] at h
  | c::_,[],h=>by simp [aCt] at h
  | c::t,d::t',h=>by
    simp only [aCt,Bool.and_eq_true] at h
    rw [Sc.aBm h.1,aBq h.2]
def Ck.eq:Ck→Ck→Bool
  | .row a,.row b=>Nat.beq a b
  | .sc c l,.sc d m=>aCt (c::l) (d::m)
  | _,_=>false
theorem Ck.aBm {a b:Ck} (h:a.eq b=true):a=b:=by
  unfold Ck.eq at h
  split at h
  · rw [Nat.eq_of_beq_eq_true h]
  · have:=aBq h
    injection this with h1 h2
    rw [h1,h2]
  · cases h
def Ck.cast {a b:Ck} (xs:List a.ty):Option (List b.ty):=match h:a.eq b with
  | true=>some (Ck.aBm h▸xs)
  | false=>none
inductive Fm where
  | e
  | n (v:Option V) (a b c d p q r s:Fm)
structure Sl where
  get:Fm→Option V
  put:Fm→V→Fm
def aBA:Sl:=⟨fun t=>match t with
  | .e=>none
  | .n v _ _ _ _ _ _ _ _=>v,fun t u=>match t with
  | .e=>.n (some u) .e .e .e .e .e .e .e .e
  | .n _ a b c d p q r s=>.n (some u) a b c d p q r s⟩
def aHn (z:Sl):Sl:=⟨fun t=>match t with
  | .e=>none
  | .n _ a _ _ _ _ _ _ _=>z.get a,fun t u=>match t with
  | .e=>.n none (z.put .e u) .e .e .e .e .e .e .e
  | .n v a b c d p q r s=>.n v (z.put a u) b c d p q r s⟩
def aHh (z:Sl):Sl:=⟨fun t=>match t with
  | .e=>none
  | .n _ _ b _ _ _ _ _ _=>z.get b,fun t u=>match t with
  | .e=>.n none .e (z.put .e u) .e .e .e .e .e .e
  | .n v a b c d p q r s=>.n v a (z.put b u) c d p q r s⟩
def aHw (z:Sl):Sl:=⟨fun t=>match t with
  | .e=>none
  | .n _ _ _ c _ _ _ _ _=>z.get c,fun t u=>match t with
  | .e=>.n none .e .e (z.put .e u) .e .e .e .e .e
  | .n v a b c d p q r s=>.n v a b (z.put c u) d p q r s⟩
def aHC (z:Sl):Sl:=⟨fun t=>match t with
  | .e=>none
  | .n _ _ _ _ d _ _ _ _=>z.get d,fun t u=>match t with
  | .e=>.n none .e .e .e (z.put .e u) .e .e .e .e
  | .n v a b c d p q r s=>.n v a b c (z.put d u) p q r s⟩
def aHo (z:Sl):Sl:=⟨fun t=>match t with
  | .e=>none
  | .n _ _ _ _ _ p _ _ _=>z.get p,fun t u=>match t with
  | .e=>.n none .e .e .e .e (z.put .e u) .e .e .e
  | .n v a b c d p q r s=>.n v a b c d (z.put p u) q r s⟩
def aHf (z:Sl):Sl:=⟨fun t=>match t with
  | .e=>none
  | .n _ _ _ _ _ _ q _ _=>z.get q,fun t u=>match t with
  | .e=>.n none .e .e .e .e .e (z.put .e u) .e .e
  | .n v a b c d p q r s=>.n v a b c d p (z.put q u) r s⟩
def aHr (z:Sl):Sl:=⟨fun t=>match t with
  | .e=>none
  | .n _ _ _ _ _ _ _ r _=>z.get r,fun t u=>match t with
  | .e=>.n none .e .e .e .e .e .e (z.put .e u) .e
  | .n v a b c d p q r s=>.n v a b c d p q (z.put r u) s⟩
def aHW (z:Sl):Sl:=⟨fun t=>match t with
  | .e=>none
  | .n _ _ _ _ _ _ _ _ s=>z.get s,fun t u=>match t with
  | .e=>.n none .e .e .e .e .e .e .e (z.put .e u)
  | .n v a b c d p q r s=>.n v a b c d p q r (z.put s u)⟩
def uK:Nat→Sl→Sl
  | 0,z=>aHn z
  | 1,z=>aHh z
  | 2,z=>aHw z
  | 3,z=>aHC z
  | 4,z=>aHo z
  | 5,z=>aHf z
  | 6,z=>aHr z
  | _,z=>aHW z
def slot:Nat→Nat→Sl
  | 0,_=>⟨fun _=>none,fun _ _=>.e⟩
  | f+1,k=>match k with
    | 0=>aBA
    | k+1=>uK (Nat.mod k 8) (slot f (Nat.div k 8))
def lkV (fr:Fm) (k:Nat):Option V:=(slot 6 k).get fr
def kG (fr:Fm) (d:Nat) (u:V):Fm:=(slot 6 d).put fr u
def chd:Nat→Fm→Fm
  | _,.e=>.e
  | d,.n _ a b c g p q r s=>match d with
    | 0=>a
    | 1=>b
    | 2=>c
    | 3=>g
    | 4=>p
    | 5=>q
    | 6=>r
    | _=>s
theorem aIW (k:Nat):Nat.mod k 8=k % 8:=rfl
theorem aJE (k:Nat):Nat.div k 8=k/8:=rfl
theorem aAq:∀ {f k:Nat},(slot f k).get .e=none
  | 0,_=>rfl
  | f+1,0=>rfl
  | f+1,k+1=>by
    simp only [slot]
    unfold uK
    split <;> rfl
theorem tK {i:Nat} {z:Sl} {t:Fm} (h:i<8) (hz:z.get .e=none):(uK i z).get t=z.get (chd i t):=by
  rcases i with _ | _ | _ | _ | _ | _ | _ | _ | i <;> first | omega | (cases t <;> first | rfl | exact hz.symm)
theorem aCh {i j:Nat} {z:Sl} {t:Fm} {u:V} (h:i<8) (h':j<8):chd j ((uK i z).put t u)=if j=i then z.put (chd i t) u else chd j t:=by
  rcases i with _ | _ | _ | _ | _ | _ | _ | _ | i <;> first | omega | (rcases j with _ | _ | _ | _ | _ | _ | _ | _ | j <;> first | omega | (cases t <;> rfl))
theorem zi {i:Nat} {z:Sl} {t:Fm} {u:V}:aBA.get ((uK i z).put t u)=aBA.get t:=by
  unfold uK
  split <;> cases t <;> rfl
theorem xP {u x:V}:∀ {f:Nat} {t:Fm} {k j:Nat},(slot f j).get ((slot f k).put t u)=some x→(j=k∧x=u)∨(j≠k∧(slot f j).get t=some x)
  | 0,t,k,j,h=>by cases h
  | f+1,t,0,0,h=>by
    left
    refine ⟨rfl,?_⟩
    cases t <;> (simp only [slot,aBA,Option.some.injEq] at h; exact h.symm)
  | f+1,t,0,j+1,h=>by
    right
    refine ⟨by omega,?_⟩
    simp only [slot] at h ⊢
    rw [aIW] at *
    have hj:j % 8<8:=Nat.mod_lt _ (by omega)
    rw [tK hj aAq] at h ⊢
    cases t with
    | e=>generalize j % 8=i at *; rcases i with _ | _ | _ | _ | _ | _ | _ | _ | i <;> exact h
    | n=>exact h
  | f+1,t,k+1,0,h=>by
    right
    refine ⟨by omega,?_⟩
    simp only [slot] at h ⊢
    rw [zi] at h
    exact h
  | f+1,t,k+1,j+1,h=>by
    simp only [slot,aIW,aJE] at h ⊢
    have hj:j % 8<8:=Nat.mod_lt _ (by omega)
    have hk:k % 8<8:=Nat.mod_lt _ (by omega)
    rw [tK hj aAq] at h ⊢
    rw [aCh hk hj] at h
    split at h
    · rename_i he
      rcases xP h with ⟨h1,h2⟩ | ⟨h1,h2⟩
      · exact .inl ⟨by omega,h2⟩
      · exact .inr ⟨by omega,by rw [he]; exact h2⟩
    · rename_i he
      exact .inr ⟨fun e=>he (by injection e with e; rw [e]),h⟩
theorem qR {fr:Fm} {d k:Nat} {u x:V} (h:lkV (kG fr d u) k=some x):(k=d∧x=u)∨(k≠d∧lkV fr k=some x):=xP h
theorem aDp {k:Nat}:lkV .e k=none:=aAq
inductive Ex where
  | n | r
  | x (id:Nat)
def Ex.to:Ex→Exit
  | .n=>.normal
  | .r=>.ret
  | .x id=>.exit id
def Ex.code:Ex→Option Code
  | .n=>none
  | .r=>some .ret
  | .x id=>some (.exit id)
structure LoopE where
  st:Nat
  pend:Ex
  n:Nat
  fr:Fm
  ps:List Tmp
  asg:Code
  body:Code
def aG6:Nat→LoopState
  | 0=>.ready
  | 1=>.busy
  | 2=>.done
  | _=>.exhausted
inductive Ent where
  | cel (l:List V) (ty:TypeId)
  | arr (ty:TypeId) (k:Ck) (xs:List k.ty)
  | loop (z:LoopE)
  | mark
  | map (l:List (V × V))
  | gl (g:Nat) (l:List V) (ty:TypeId)
universe u u' u''
inductive D where
  | t | f | k | ok
  | row (l:List V)
  | cd (c:Ck)
structure R (α:Type u) where
  conc:Option α
  sym:List D→Option (α × List Prop × List D)
def aEG:List Prop→Prop
  | []=>True
  | p::t=>p∧aEG t
theorem q9:∀ {l m:List Prop},aEG (l++m)→aEG l∧aEG m
  | [],_,h=>⟨trivial,h⟩
  | _::_,_,h=>⟨⟨h.1,(q9 h.2).1⟩,(q9 h.2).2⟩
def R.pure {α:Type u} (x:α):R α:=⟨some x,fun d=>some (x,[],d)⟩
def R.bind {α:Type u} {β:Type u'} (m:R α) (k:α→R β):R β:=⟨match m.conc with
  | none=>none
  | some x=>(k x).conc,fun d=>match m.sym d with
  | none=>none
  | some (x,o,d1)=>match (k x).sym d1 with
    | none=>none
    | some (y,o2,d2)=>some (y,o++o2,d2)⟩
def R.fail {α:Type u}:R α:=⟨none,fun _=>none⟩
def R.lift {α:Type u} (x:Option α):R α:=⟨x,fun d=>match x with
  | some y=>some (y,[],d)
  | none=>none⟩
structure R.Ok {α:Type u} (m:R α) (φ:α→Prop):Prop where
  conc:∀ x,m.conc=some x→φ x
  sym:∀ d x o d',m.sym d=some (x,o,d')→aEG o→φ x
def zq (b:Bool):R Bool:=⟨match b with
    | true=>some true
    | false=>some false,fun d=>match d with
  | .t::r=>some (true,[b=true],r)
  | .f::r=>some (false,[b=false],r)
  | .k::r=>match b with
    | true=>some (true,[],r)
    | false=>some (false,[],r)
  | _=>none⟩
def iD (p:Prop) [Decidable p]:R Unit:=⟨match decide p with
    | true=>some ()
    | false=>none,fun d=>match d with
  | .ok::r=>some ((),[p],r)
  | .k::r=>match decide p with
    | true=>some ((),[],r)
    | false=>none
  | _=>none⟩
def aCC (x:Option (List V)):R (List V):=⟨x,fun d=>match d with
  | .row l::r=>some (l,[x=some l],r)
  | .k::r=>match x with
    | some l=>some (l,[],r)
    | none=>none
  | _=>none⟩
section
variable {α:Type u} {β:Type u'} {φ:α→Prop} {ψ:β→Prop}
theorem R.Ok.pure {x:α} (h:φ x):(R.pure x).Ok φ:=by
  refine ⟨fun y e=>?_,fun d y o d' e _=>?_⟩
  · simp only [R.pure,Option.some.injEq] at e; exact e▸h
  · simp only [R.pure,Option.some.injEq,Prod.mk.injEq] at e
    exact e.1▸h
theorem R.Ok.bind {m:R α} {k:α→R β} (h:m.Ok fun x=>(k x).Ok ψ):(m.bind k).Ok ψ:=by
  refine ⟨fun y e=>?_,fun d y o d' e ha=>?_⟩
  · simp only [R.bind] at e
    split at e
    · cases e
    · rename_i x h1; exact (h.conc x h1).conc y e
  · simp only [R.bind] at e
    split at e
    · cases e
    · rename_i x o1 d1 h1
      split at e
      · cases e
      · rename_i y' o2 d2 h2
        simp only [Option.some.injEq,Prod.mk.injEq] at e
        obtain ⟨rfl,rfl,rfl⟩:=e
        obtain ⟨a1,a2⟩:=q9 ha
        exact (h.sym d x o1 d1 h1 a1).sym d1 _ o2 _ h2 a2
theorem R.Ok.fail:(R.fail:R α).Ok φ:=⟨(fun x e=>by cases e),(fun d x o d' e=>by cases e)⟩
theorem R.Ok.lift {x:Option α} (h:∀ y,x=some y→φ y):(R.lift x).Ok φ:=by
  refine ⟨fun y e=>h y e,fun d y o d' e _=>?_⟩
  simp only [R.lift] at e
  split at e
  · simp only [Option.some.injEq,Prod.mk.injEq] at e
    exact e.1▸h _ rfl
  · cases e
theorem R.Ok.mono {m:R α} {φ':α→Prop} (h:m.Ok φ) (hi:∀ x,φ x→φ' x):m.Ok φ':=⟨fun x e=>hi x (h.conc x e),fun d x o d' e ha=>hi x (h.sym d x o d' e ha)⟩
theorem R.Ok.andThen {m:R α} {k:α→R β} {φ:α→Prop} (h:m.Ok φ) (hk:∀ x,φ x→(k x).Ok ψ):(m.bind k).Ok ψ:=R.Ok.bind (h.mono hk)
theorem R.Ok.all {ι:Sort u''} {m:R α} {φ:ι→α→Prop} (h:∀ i,m.Ok (φ i)):m.Ok fun x=>∀ i,φ i x:=⟨fun x e i=>(h i).conc x e,fun d x o d' e ha i=>(h i).sym d x o d' e ha⟩
theorem vQ (b:Bool):(zq b).Ok fun x=>b=x:=by
  refine ⟨fun x e=>?_,fun d x o d' e ha=>?_⟩
  · simp only [zq] at e
    split at e <;> (simp only [Option.some.injEq] at e; rw [← e])
  · simp only [zq] at e
    split at e
    · simp only [Option.some.injEq,Prod.mk.injEq] at e
      obtain ⟨rfl,rfl,rfl⟩:=e
      exact ha.1
    · simp only [Option.some.injEq,Prod.mk.injEq] at e
      obtain ⟨rfl,rfl,rfl⟩:=e
      exact ha.1
    · split at e <;> (simp only [Option.some.injEq,Prod.mk.injEq] at e; rw [← e.1])
    · cases e
theorem dM (p:Prop) [Decidable p]:(iD p).Ok fun _=>p:=by
  refine ⟨fun x e=>?_,fun d x o d' e ha=>?_⟩
  · simp only [iD] at e
    split at e
    · rename_i h; exact of_decide_eq_true h
    · cases e
  · simp only [iD] at e
    split at e
    · simp only [Option.some.injEq,Prod.mk.injEq] at e
      obtain ⟨_,rfl,rfl⟩:=e
      exact ha.1
    · split at e
      · rename_i h; exact of_decide_eq_true h
      · cases e
    · cases e
theorem pG (x:Option (List V)):(aCC x).Ok fun l=>x=some l:=by
  refine ⟨fun l e=>e,fun d l o d' e ha=>?_⟩
  simp only [aCC] at e
  split at e
  · simp only [Option.some.injEq,Prod.mk.injEq] at e
    obtain ⟨rfl,rfl,rfl⟩:=e
    exact ha.1
  · split at e
    · simp only [Option.some.injEq,Prod.mk.injEq] at e
      rw [e.1]
    · cases e
  · cases e
end
def aCp:Value→Bool
  | .slice _ _ _=>true
  | _=>false
def xW:Value→Bool
  | .slice (some ⟨_,_,none⟩) _ _=>true
  | _=>false
structure Env where
  get:Nat→Option Value
  nx:Nat
  dom:∀ e,nx≤e→get e=none
instance:CoeFun Env (fun _=>Nat→Option Value):=⟨Env.get⟩
mutual
inductive VR (ρ:Env):V→Value→Prop
  | c {v}:VR ρ (.c v) v
  | ag {l cs} (h:VRL ρ l cs):VR ρ (.ag l) (.agg cs.toArray)
  | tu {l cs} (h:VRL ρ l cs):VR ρ (.tu l) (.tuple cs.toArray)
  | p {e o b} (h:ρ e=some (.pointer (some ⟨b,0,none⟩))):VR ρ (.p e o) (.pointer (some ⟨b,o,none⟩))
  | q {e sz i o v} (h:ρ e=some v) (hs:xW v=true):VR ρ (.q e sz i o) (ix v (i.toNat*sz+o))
  | sl {e v} (h:ρ e=some v) (hs:aCp v=true):VR ρ (.sl e) v
  | sw {e sz a b v} (h:ρ e=some v) (hs:aCp v=true):VR ρ (.sw e sz a b) (vsub sz v a b)
  | fn {f l cs} (h:VRL ρ l cs):VR ρ (.fn f l) (.func (.func f) #[] cs.toArray)
  | bf {f l cs} (h:VRL ρ l cs):VR ρ (.bf f l) (.func (.func f) cs.toArray #[])
  | yd {e l} (h:ρ e=some (.func (.yield l) #[] #[])):VR ρ (.yd e) (.func (.yield l) #[] #[])
  | mp {e b} (h:ρ e=some (.map (some b))):VR ρ (.mp e) (.map (some b))
  | ez {A c}:VR ρ .ez (.slice A 0 c)
  | un {v}:VR ρ .un v
inductive VRL (ρ:Env):List V→List Value→Prop
  | nil:VRL ρ [] []
  | cons {u v l cs} (h:VR ρ u v) (t:VRL ρ l cs):VRL ρ (u::l) (v::cs)
end
structure Env.le (ρ ρ':Env):Prop where
  nx:ρ.nx≤ρ'.nx
  eq:∀ e,e<ρ.nx→ρ' e=ρ e
theorem Env.lt {ρ:Env} {e:Nat} {v:Value} (h:ρ e=some v):e<ρ.nx:=by
  rcases Nat.lt_or_ge e ρ.nx with h1 | h1
  · exact h1
  · have:=ρ.dom e h1; rw [this] at h; cases h
theorem Env.le.get {ρ ρ':Env} (h:ρ.le ρ') {e:Nat} {v:Value} (hv:ρ e=some v):ρ' e=some v:=(h.eq e (Env.lt hv)).trans hv
theorem Env.le.refl (ρ:Env):ρ.le ρ:=⟨Nat.le_refl _,fun _ _=>rfl⟩
theorem Env.le.trans {a b c:Env} (h:a.le b) (h':b.le c):a.le c:=⟨Nat.le_trans h.nx h'.nx,fun e he=>(h'.eq e (Nat.lt_of_lt_of_le he h.nx)).trans (h.eq e he)⟩
def Env.sub (ρ ρ':Env):Prop:=∀ e v,ρ e=some v→ρ' e=some v
theorem Env.le.sub {ρ ρ':Env} (h:ρ.le ρ'):ρ.sub ρ':=fun _ _ hv=>h.get hv
section
variable {ρ ρ':Env}
mutual
theorem VR.bM (h:ρ.sub ρ'):∀ {u v},VR ρ u v→VR ρ' u v
  | _,_,.c=>.c
  | _,_,.ag hl=>.ag (VRL.bM h hl)
  | _,_,.tu hl=>.tu (VRL.bM h hl)
  | _,_,.p he=>.p (h _ _ he)
  | _,_,.q he hs=>.q (h _ _ he) hs
  | _,_,.sl he hs=>.sl (h _ _ he) hs
  | _,_,.sw he hs=>.sw (h _ _ he) hs
  | _,_,.fn hl=>.fn (VRL.bM h hl)
  | _,_,.bf hl=>.bf (VRL.bM h hl)
  | _,_,.yd he=>.yd (h _ _ he)
  | _,_,.mp he=>.mp (h _ _ he)
  | _,_,.ez=>.ez
  | _,_,.un=>.un
theorem VRL.bM (h:ρ.sub ρ'):∀ {l cs},VRL ρ l cs→VRL ρ' l cs
  | _,_,.nil=>.nil
  | _,_,.cons hv ht=>.cons (VR.bM h hv) (VRL.bM h ht)
end
theorem VR.mono (h:ρ.le ρ') {u v} (hv:VR ρ u v):VR ρ' u v:=hv.bM h.sub
theorem VRL.mono (h:ρ.le ρ') {l cs} (hv:VRL ρ l cs):VRL ρ' l cs:=hv.bM h.sub
theorem VRL.len:∀ {l cs},VRL ρ l cs→l.length=cs.length
  | _,_,.nil=>rfl
  | _,_,.cons _ t=>by simp [VRL.len t]
theorem VRL.app:∀ {l cs l' cs'},VRL ρ l cs→VRL ρ l' cs'→VRL ρ (l++l') (cs++cs')
  | _,_,_,_,.nil,h=>h
  | _,_,_,_,.cons hv t,h=>.cons hv (VRL.app t h)
theorem VRL.get:∀ {l cs} {k:Nat} {u:V},VRL ρ l cs→l[k]? = some u→∃ v,cs[k]? = some v∧VR ρ u v
  | _,_,_,_,.nil,h=>by simp at h
  | _,_,0,u,.cons hv t,h=>by
    simp only [List.getElem?_cons_zero,Option.some.injEq] at h
    exact ⟨_,rfl,h▸hv⟩
  | _,_,k+1,u,.cons hv t,h=>by
    simp only [List.getElem?_cons_succ] at h ⊢
    exact VRL.get t h
theorem VRL.take:∀ {l cs} (k:Nat),VRL ρ l cs→VRL ρ (l.take k) (cs.take k)
  | _,_,0,_=>by simpa using VRL.nil
  | _,_,_+1,.nil=>.nil
  | _,_,k+1,.cons hv t=>.cons hv (VRL.take k t)
theorem VRL.drop:∀ {l cs} (k:Nat),VRL ρ l cs→VRL ρ (l.drop k) (cs.drop k)
  | _,_,0,h=>h
  | _,_,_+1,.nil=>.nil
  | _,_,k+1,.cons _ t=>VRL.drop k t
theorem VRL.set:∀ {l cs} (k:Nat) {u v},VRL ρ l cs→VR ρ u v→VRL ρ (l.set k u) (cs.set k v)
  | _,_,0,_,_,.cons _ t,h=>.cons h t
  | _,_,k+1,_,_,.cons hv t,h=>.cons hv (VRL.set k t h)
  | _,_,_,_,_,.nil,_=>.nil
end
def toV:Value→V
  | .agg cs=>.ag (cs.toList.map .c)
  | .tuple cs=>.tu (cs.toList.map .c)
  | v=>.c v
theorem VRL.ofc {ρ:Env}:∀ l:List Value,VRL ρ (l.map .c) l
  | []=>.nil
  | _::t=>.cons .c (VRL.ofc t)
theorem z8 {ρ:Env} (v:Value):VR ρ (toV v) v:=by
  unfold toV
  split
  · rename_i cs; exact .ag (cs:=cs.toList) (VRL.ofc _)
  · rename_i cs; exact .tu (cs:=cs.toList) (VRL.ofc _)
  · exact .c
inductive Df where
  | call (f:FuncId) (l:List V)
  | mark (e:Nat)
structure S where
  fr:Fm
  H:List (Nat × Ent)
  nx:Nat
  df:List Df
def lkE:List (Nat × Ent)→Nat→Option Ent
  | [],_=>none
  | (k,v)::t,j=>match Nat.beq k j with
    | true=>some v
    | false=>lkE t j
def xev (fr:Fm):Operand→Option V
  | .tmp t=>lkV fr t
  | .const v=>some (toV v)
  | .func f=>some (.fn f [])
  | .global g=>some (.c (.pointer (some ⟨g,0,none⟩)))
def FR (ρ:Env) (fr:Fm) (L:List (Nat × Value)):Prop:=∀ k u,lkV fr k=some u→∃ v,lk L k=some v∧VR ρ u v
theorem FR.mono {ρ ρ':Env} {fr L} (h:ρ.le ρ') (hf:FR ρ fr L):FR ρ' fr L:=fun k u hk=>let ⟨v,h1,h2⟩:=hf k u hk; ⟨v,h1,h2.mono h⟩
theorem FR.put {ρ:Env} {fr L} {d:Nat} {u:V} {v:Value} (hf:FR ρ fr L) (h:VR ρ u v):FR ρ (kG fr d u) ((d,v)::L):=by
  intro k u' hk
  simp only [lk]
  rcases qR hk with ⟨rfl,rfl⟩ | ⟨h1,h2⟩
  · exact ⟨v,by rw [Nat.beq_refl],h⟩
  · have hb:Nat.beq d k=false:=by
      cases hb:Nat.beq d k with
      | false=>rfl
      | true=>exact absurd (Nat.eq_of_beq_eq_true hb).symm h1
    rw [hb]; exact hf k u' h2
theorem FR.ev {ρ:Env} {fr L} {x:Operand} {u:V} (hf:FR ρ fr L) (h:xev fr x=some u):∃ v,ev L x=some v∧VR ρ u v:=by
  cases x with
  | tmp t=>exact hf t u h
  | const v=>simp only [xev,Option.some.injEq] at h; exact ⟨v,rfl,h▸z8 v⟩
  | func f=>simp only [xev,Option.some.injEq] at h; exact ⟨_,rfl,h▸.fn (cs:=[]) .nil⟩
  | global g=>simp only [xev,Option.some.injEq] at h; exact ⟨_,rfl,h▸.c⟩
def aAY:V→Bool
  | .c (.agg _)=>false
  | .c (.tuple _)=>false
  | .c _=>true
  | .p _ _=>true
  | .q _ _ _ _=>true
  | .sl _=>true
  | .sw _ _ _ _=>true
  | .fn _ _=>true
  | .bf _ _=>true
  | .yd _=>true
  | .mp _=>true
  | .ez=>true
  | _=>false
theorem aBn {ρ:Env} {u:V} {v:Value} (h:VR ρ u v) (h1:aAY u=true):aQ [v]=true:=by
  cases h with
  | c=>cases v <;> first | rfl | cases h1
  | ag=>cases h1
  | tu=>cases h1
  | p=>rfl
  | q he hs=>rename_i v; cases v <;> first | rfl | cases hs
  | sl he hs=>cases v <;> first | rfl | cases hs
  | sw he hs=>rename_i v; cases v <;> first | (simp only [vsub]; split <;> rfl) | cases hs
  | fn=>rfl
  | bf=>rfl
  | yd=>rfl
  | mp=>rfl
  | ez=>rfl
  | un=>cases h1
def Row (sz:Nat):Type:={l:List Value // l.length=sz∧aQ l=true}
def ja (sz:Nat) (r:Row sz):List Value:=r.1
theorem fC {sz:Nat}:∀ r:Row sz,(ja sz r).length=sz:=fun r=>r.2.1
theorem yw {sz:Nat}:∀ r:Row sz,aQ (ja sz r)=true:=fun r=>r.2.2
inductive RL {α:Type} (ρ:Env) (C:Cd α):List α→List (Row C.sz)→Prop
  | nil:RL ρ C [] []
  | cons {x y xs ys} (h:VRL ρ (C.enc x) y.1) (t:RL ρ C xs ys):RL ρ C (x::xs) (y::ys)
theorem RL.bM {α:Type} {ρ ρ':Env} {C:Cd α} (h:ρ.sub ρ'):∀ {xs ys},RL ρ C xs ys→RL ρ' C xs ys
  | _,_,.nil=>.nil
  | _,_,.cons a t=>.cons (a.bM h) (RL.bM h t)
theorem RL.mono {α:Type} {ρ ρ':Env} {C:Cd α} (h:ρ.le ρ') {xs ys} (hr:RL ρ C xs ys):RL ρ' C xs ys:=hr.bM h.sub
theorem RL.len {α:Type} {ρ:Env} {C:Cd α}:∀ {xs ys},RL ρ C xs ys→xs.length=ys.length
  | _,_,.nil=>rfl
  | _,_,.cons _ t=>by simp [RL.len t]
theorem RL.get {α:Type} {ρ:Env} {C:Cd α}:∀ {xs ys} {k:Nat} {x:α},RL ρ C xs ys→xs[k]? = some x→∃ y,ys[k]? = some y∧VRL ρ (C.enc x) y.1
  | _,_,_,_,.nil,h=>by simp at h
  | _,_,0,x,.cons a t,h=>by
    simp only [List.getElem?_cons_zero,Option.some.injEq] at h
    exact ⟨_,rfl,h▸a⟩
  | _,_,k+1,x,.cons a t,h=>by
    simp only [List.getElem?_cons_succ] at h ⊢
    exact RL.get t h
theorem RL.idx {α:Type} {ρ:Env} {C:Cd α} {xs ys} {p:Int} {x:α} (h:RL ρ C xs ys) (hx:SL.idx xs p=some x):∃ y,SL.idx ys p=some y∧VRL ρ (C.enc x) y.1:=by
  obtain ⟨h1,h2,h3⟩:=jP hx
  obtain ⟨y,h4,h5⟩:=h.get h3
  refine ⟨y,?_,h5⟩
  unfold SL.idx; rw [if_pos (by omega)]; exact h4
theorem RL.app {α:Type} {ρ:Env} {C:Cd α}:∀ {xs ys xs' ys'},RL ρ C xs ys→RL ρ C xs' ys'→RL ρ C (xs++xs') (ys++ys')
  | _,_,_,_,.nil,h=>h
  | _,_,_,_,.cons a t,h=>.cons a (RL.app t h)
theorem RL.take {α:Type} {ρ:Env} {C:Cd α}:∀ {xs ys} (k:Nat),RL ρ C xs ys→RL ρ C (xs.take k) (ys.take k)
  | _,_,0,_=>by simpa using RL.nil
  | _,_,_+1,.nil=>.nil
  | _,_,k+1,.cons hv t=>.cons hv (RL.take k t)
theorem RL.drop {α:Type} {ρ:Env} {C:Cd α}:∀ {xs ys} (k:Nat),RL ρ C xs ys→RL ρ C (xs.drop k) (ys.drop k)
  | _,_,0,h=>h
  | _,_,_+1,.nil=>.nil
  | _,_,k+1,.cons _ t=>RL.drop k t
theorem RL.set {α:Type} {ρ:Env} {C:Cd α}:∀ {xs ys} (k:Nat) {x y},RL ρ C xs ys→VRL ρ (C.enc x) y.1→RL ρ C (xs.set k x) (ys.set k y)
  | _,_,0,_,_,.cons _ t,h=>.cons h t
  | _,_,k+1,_,_,.cons hv t,h=>.cons hv (RL.set k t h)
  | _,_,_,_,_,.nil,_=>.nil
theorem RL.rep {α:Type} {ρ:Env} {C:Cd α} {x y} (h:VRL ρ (C.enc x) y.1):∀ n,RL ρ C (List.replicate n x) (List.replicate n y)
  | 0=>.nil
  | n+1=>.cons h (RL.rep h n)
def LR (ρ:Env) (e:Nat) (z:LoopE) (p:Asr):Prop :=
  ∃ (l:Nat) (rec:Loop) (L:List (Nat × Value)),ρ e=some (.func (.yield l) #[] #[])∧p=pt l (.loop rec)∧rec.state=aG6 z.st∧rec.pending=z.pend.code∧rec.params=z.ps.toArray∧rec.assign=z.asg∧rec.body=z.body ∧
    rec.tmps.size=z.n∧(∀ k v,lk L k=some v→rec.tmps[k]? = some v)∧FR ρ z.fr L
inductive KVR (ρ:Env):List (V × V)→List (Value × Value)→Prop
  | nil:KVR ρ [] []
  | cons {k v k' v' l m} (h:VR ρ k k') (h':VR ρ v v') (t:KVR ρ l m):KVR ρ ((k,v)::l) ((k',v')::m)
theorem KVR.bM {ρ ρ':Env} (h:ρ.sub ρ'):∀ {l m},KVR ρ l m→KVR ρ' l m
  | _,_,.nil=>.nil
  | _,_,.cons a b t=>.cons (a.bM h) (b.bM h) (KVR.bM h t)
def kvE (e:MapEntry):Value × Value:=(e.key,e.val)
def sI (h:Hp) (b:Nat) (kvs:List (Value × Value)):Prop:=∃ es clock,h b=some (.map es clock)∧es.toList.map kvE=kvs∧(∀ e ∈ es.toList,e.born<clock)∧(es.toList.map (·.born)).Nodup
def mpA (b:Nat) (kvs:List (Value × Value)):Asr:=⟨fun k=>k=b,fun h=>sI h b kvs,fun h h' hk ⟨es,c,h1,h2,h3,h4⟩=>⟨es,c,by rw [hk b rfl]; exact h1,h2,h3,h4⟩⟩
def ER (ρ:Env) (e:Nat):Ent→Asr→Prop
  | .cel l ty,p=>∃ b cs,ρ e=some (.pointer (some ⟨b,0,none⟩))∧VRL ρ l cs∧p=pt b (.cells cs.toArray ty (0,0))
  | .arr ty k xs,p=>∃ v ys,ρ e=some v∧RL ρ k.cd xs ys∧p=slE ty k.cd.sz (ja k.cd.sz) v ys
  | .loop z,p=>LR ρ e z p
  | .mark,p=>∃ D,ρ e=some (.pointer (some ⟨D,0,none⟩))∧p=pt D (.deferred (some []))
  | .map l,p=>∃ b kvs,ρ e=some (.map (some b))∧KVR ρ l kvs∧p=mpA b kvs
  | .gl g l ty,p=>∃ cs,ρ e=some (.pointer (some ⟨g,0,none⟩))∧VRL ρ l cs∧p=pt g (.cells cs.toArray ty (0,0))
def EB (ρ:Env) (e:Nat):Ent→Asr→Prop
  | .cel l ty,p=>∃ b cs,ρ e=some (.pointer (some ⟨b,0,none⟩))∧VRL ρ l cs∧p=pt b (.cells cs.toArray ty (0,0))
  | .arr _ k xs,p=>∃ v ys,ρ e=some v∧RL ρ k.cd xs ys∧p=rdE k.cd.sz (ja k.cd.sz) v ys
  | .loop z,p=>LR ρ e z p
  | .mark,p=>∃ D,ρ e=some (.pointer (some ⟨D,0,none⟩))∧p=pt D (.deferred (some []))
  | .map l,p=>∃ b kvs,ρ e=some (.map (some b))∧KVR ρ l kvs∧p=mpA b kvs
  | .gl g l ty,p=>∃ cs,ρ e=some (.pointer (some ⟨g,0,none⟩))∧VRL ρ l cs∧p=pt g (.cells cs.toArray ty (0,0))
inductive HR (F:Nat→Ent→Asr→Prop):List (Nat × Ent)→List Asr→Prop
  | nil:HR F [] []
  | cons {e ent p H M} (h:F e ent p) (t:HR F H M):HR F ((e,ent)::H) (p::M)
theorem HR.mono {F G:Nat→Ent→Asr→Prop} (h:∀ e ent p,F e ent p→G e ent p):∀ {H M},HR F H M→HR G H M
  | _,_,.nil=>.nil
  | _,_,.cons a t=>.cons (h _ _ _ a) (HR.mono h t)
theorem LR.bM {ρ ρ':Env} (h:ρ.sub ρ') {e z p} (he:LR ρ e z p):LR ρ' e z p:=by
  obtain ⟨l,rec,L,h1,h2,h3,h4,h5,h6,h7,h8,h9,h10⟩:=he
  exact ⟨l,rec,L,h _ _ h1,h2,h3,h4,h5,h6,h7,h8,h9,fun k u hk=>let ⟨v,a,b⟩:=h10 k u hk; ⟨v,a,b.bM h⟩⟩
theorem ER.bM {ρ ρ':Env} (h:ρ.sub ρ') {e ent p} (he:ER ρ e ent p):ER ρ' e ent p:=by
  cases ent with
  | loop z=>exact LR.bM h he
  | mark=>obtain ⟨D,h1,h2⟩:=he; exact ⟨D,h _ _ h1,h2⟩
  | map l=>obtain ⟨b,kvs,h1,h2,h3⟩:=he; exact ⟨b,kvs,h _ _ h1,h2.bM h,h3⟩
  | gl g l ty=>obtain ⟨cs,h1,h2,h3⟩:=he; exact ⟨cs,h _ _ h1,h2.bM h,h3⟩
  | cel l ty=>obtain ⟨b,cs,h1,h2,h3⟩:=he; exact ⟨b,cs,h _ _ h1,h2.bM h,h3⟩
  | arr ty C xs=>obtain ⟨v,cs,h1,h2,h3⟩:=he; exact ⟨v,cs,h _ _ h1,h2.bM h,h3⟩
theorem ER.mono {ρ ρ':Env} (h:ρ.le ρ') {e ent p} (he:ER ρ e ent p):ER ρ' e ent p:=he.bM h.sub
theorem EB.bM {ρ ρ':Env} (h:ρ.sub ρ') {e ent p} (he:EB ρ e ent p):EB ρ' e ent p:=by
  cases ent with
  | loop z=>exact LR.bM h he
  | mark=>obtain ⟨D,h1,h2⟩:=he; exact ⟨D,h _ _ h1,h2⟩
  | map l=>obtain ⟨b,kvs,h1,h2,h3⟩:=he; exact ⟨b,kvs,h _ _ h1,h2.bM h,h3⟩
  | gl g l ty=>obtain ⟨cs,h1,h2,h3⟩:=he; exact ⟨cs,h _ _ h1,h2.bM h,h3⟩
  | cel l ty=>obtain ⟨b,cs,h1,h2,h3⟩:=he; exact ⟨b,cs,h _ _ h1,h2.bM h,h3⟩
  | arr ty C xs=>obtain ⟨v,cs,h1,h2,h3⟩:=he; exact ⟨v,cs,h _ _ h1,h2.bM h,h3⟩
theorem EB.mono {ρ ρ':Env} (h:ρ.le ρ') {e ent p} (he:EB ρ e ent p):EB ρ' e ent p:=he.bM h.sub
def ixE:List (Nat × Ent)→Nat→Nat
  | [],_=>0
  | (k,_)::t,j=>match Nat.beq k j with
    | true=>0
    | false=>ixE t j+1
theorem HR.get {F:Nat→Ent→Asr→Prop}:∀ {H M} {e:Nat} {ent:Ent},HR F H M→lkE H e=some ent→∃ p,M[ixE H e]? = some p∧F e ent p
  | _,_,_,_,.nil,h=>by cases h
  | _,_,e,ent,.cons (e:=k) a t,h=>by
    simp only [lkE] at h
    simp only [ixE]
    split at h
    · rename_i hb
      simp only [Option.some.injEq] at h
      subst h
      have:=Nat.eq_of_beq_eq_true hb
      subst this
      exact ⟨_,rfl,a⟩
    · rename_i hb
      obtain ⟨p,h1,h2⟩:=HR.get t h
      exact ⟨p,by simpa using h1,h2⟩
def iU:List (Nat × Ent)→Nat→Ent→List (Nat × Ent)
  | [],_,_=>[]
  | (k,v)::t,j,x=>match Nat.beq k j with
    | true=>(k,x)::t
    | false=>(k,v)::iU t j x
theorem HR.set {F:Nat→Ent→Asr→Prop}:∀ {H M} {e:Nat} {ent ent':Ent} {p':Asr},HR F H M→lkE H e=some ent→F e ent' p'→HR F (iU H e ent') (M.set (ixE H e) p')
  | _,_,_,_,_,_,.nil,h,_=>by cases h
  | _,_,e,ent,ent',p',.cons (e:=k) a t,h,hp=>by
    simp only [lkE] at h
    simp only [ixE,iU]
    split at h
    · rename_i hb
      have:=Nat.eq_of_beq_eq_true hb
      subst this
      exact .cons hp t
    · rename_i hb
      exact .cons a (HR.set t h hp)
def dfrd (f:FuncId) (vs:List Value):Deferred:={ target:=.fn (.func f) #[],args:=vs.toArray }
inductive DR (ρ:Env):List Df→List Deferred→Prop
  | nil:DR ρ [] []
  | call {f l vs t ds} (h:VRL ρ l vs) (r:DR ρ t ds):DR ρ (.call f l::t) (dfrd f vs::ds)
  | mark {e D t ds} (h:ρ e=some (.pointer (some ⟨D,0,none⟩))) (r:DR ρ t ds):DR ρ (.mark e::t) ({ target:=.collected D,args:=#[] }::ds)
theorem DR.mono {ρ ρ':Env} (h:ρ.le ρ'):∀ {l ds},DR ρ l ds→DR ρ' l ds
  | _,_,.nil=>.nil
  | _,_,.call a t=>.call (a.mono h) (DR.mono h t)
  | _,_,.mark a t=>.mark (h.get a) (DR.mono h t)
structure Rl (w0:World) (X:Nat→Prop) (B:List (Nat × Ent)) (n:Nat) (s:S) (ρ:Env) (L:List (Nat × Value)) (BM M:List Asr) (ds:List Deferred) (a:Act) (w:World):Prop where
  dom:ρ.nx=s.nx
  fr:FR ρ s.fr L
  hb:HR (EB ρ) B BM
  hm:HR (ER ρ) s.H M
  df:DR ρ s.df ds
  act:Fr a n ds L
  st:St w0 w X BM M
end Go.RX

namespace Go.RX
open Go Go.SL
universe u
def aI9 (ρ:Env) (h:Hp) (e:Nat):Ent→Prop
  | .cel l ty=>∃ b cs,ρ e=some (.pointer (some ⟨b,0,none⟩))∧VRL ρ l cs∧h b=some (.cells cs.toArray ty (0,0))
  | .arr _ k xs=>∃ v ys,ρ e=some v∧RL ρ k.cd xs ys∧dw h k.cd.sz (ja k.cd.sz) v ys
  | .loop _=>True
  | .mark=>True
  | .map l=>∃ b kvs,ρ e=some (.map (some b))∧KVR ρ l kvs∧sI h b kvs
  | .gl g l ty=>∃ cs,VRL ρ l cs∧h g=some (.cells cs.toArray ty (0,0))
def rdA (s:S) (B:List (Nat × Ent)) (e:Nat):Option Ent:=match lkE s.H e with
  | some x=>some x
  | none=>lkE B e
structure Sees (ρ:Env) (B:List (Nat × Ent)) (s:S) (L:List (Nat × Value)) (w:World):Prop where
  fr:FR ρ s.fr L
  en:∀ e ent,rdA s B e=some ent→aI9 ρ (hp w) e ent
def Gives (P:Program) (ρ:Env) (L:List (Nat × Value)) (op:Op) (ty:TypeId) (w:World) (u:V):Prop:=∃ v,VR ρ u v∧∀ n ds,aA P n ds L op ty w v w
def dm (s:S) (x:Operand):R V:=R.lift (xev s.fr x)
section
variable {P:Program} {ρ:Env} {B:List (Nat × Ent)} {s:S} {L:List (Nat × Value)} {w:World} {op:Op} {ty t t' e:TypeId} {x y:Operand} {φ:V→Prop}
theorem vK (h:Sees ρ B s L w) (x:Operand):(dm s x).Ok fun u=>∃ v,ev L x=some v∧VR ρ u v:=R.Ok.lift fun _ hy=>h.fr.ev hy
theorem bX {β:Type u} {ψ:β→Prop} {k:V→R β} (h:Sees ρ B s L w) (hk:∀ u v,ev L x=some v→VR ρ u v→(k u).Ok ψ):((dm s x).bind k).Ok ψ :=
  (vK h x).andThen fun u ⟨v,h1,h2⟩=>hk u v h1 h2
theorem bQ {v:Value} (h:∀ n ds,aA P n ds L op ty w v w):(R.pure (V.c v)).Ok (Gives P ρ L op ty w):=R.Ok.pure ⟨v,.c,h⟩
def xarith (op:BinOp) (k k':IntKind) (p q:Int):R V:=match op with
  | .shl=>(iD (0≤q)).bind fun _=>R.pure (.c (.int k (k.wrap (p*2^(min q.toNat k.bits)))))
  | .shr=>(iD (0≤q)).bind fun _=>R.pure (.c (.int k (p.fdiv (2^(min q.toNat k.bits)))))
  | _=>match kEq k k' with
    | false=>R.fail
    | true=>match op with
      | .add=>R.pure (.c (.int k (k.wrap (p+q))))
      | .sub=>R.pure (.c (.int k (k.wrap (p-q))))
      | .mul=>R.pure (.c (.int k (k.wrap (p*q))))
      | .quo=>(iD (q≠0)).bind fun _=>R.pure (.c (.int k (k.wrap (p.tdiv q))))
      | .rem=>(iD (q≠0)).bind fun _=>R.pure (.c (.int k (p.tmod q)))
      | .and=>R.pure (.c (.int k (SL.bitand k p q)))
      | .or=>R.pure (.c (.int k (SL.bitor k p q)))
      | .xor=>R.pure (.c (.int k (SL.bitxor k p q)))
      | .andNot=>R.pure (.c (.int k (SL.jY k p q)))
      | .eql=>R.pure (.c (.bool (decide (p=q))))
      | .neq=>R.pure (.c (.bool (decide (p≠q))))
      | .lss=>R.pure (.c (.bool (decide (p<q))))
      | .leq=>R.pure (.c (.bool (decide (p≤q))))
      | .gtr=>R.pure (.c (.bool (decide (p>q))))
      | .geq=>R.pure (.c (.bool (decide (p≥q))))
      | _=>R.fail
theorem aDG {bo:BinOp} {k k':IntKind} {p q:Int} (hx:ev L x=some (.int k p)) (hy:ev L y=some (.int k' q)):(xarith bo k k' p q).Ok (Gives P ρ L (.binOp bo t x y t') ty w):=by
  unfold xarith
  split
  · exact (dM _).andThen fun _ h=>bQ fun n ds=>aA.shl hx hy h
  · exact (dM _).andThen fun _ h=>bQ fun n ds=>aA.shr hx hy h
  · split
    · exact R.Ok.fail
    · rename_i hk
      have:=mR hk
      subst this
      split
      · exact bQ fun n ds=>aA.add hx hy
      · exact bQ fun n ds=>aA.sub hx hy
      · exact bQ fun n ds=>aA.mul hx hy
      · exact (dM _).andThen fun _ h=>bQ fun n ds=>aA.quo hx hy h
      · exact (dM _).andThen fun _ h=>bQ fun n ds=>aA.rem hx hy h
      · exact bQ fun n ds=>aA.bitand hx hy
      · exact bQ fun n ds=>aA.bitor hx hy
      · exact bQ fun n ds=>aA.bitxor hx hy
      · exact bQ fun n ds=>aA.jY hx hy
      · exact bQ fun n ds=>aA.eql hx hy
      · exact bQ fun n ds=>aA.neq hx hy
      · exact bQ fun n ds=>aA.lss hx hy
      · exact bQ fun n ds=>aA.leq hx hy
      · exact bQ fun n ds=>aA.gtr hx hy
      · exact bQ fun n ds=>aA.geq hx hy
      · exact R.Ok.fail
def xbool (P:Program) (t:TypeId) (op:BinOp) (a b:Bool):R V:=match P.underlying t with
  | some .bool=>match op with
    | .eql=>R.pure (.c (.bool (a == b)))
    | .neq=>R.pure (.c (.bool (!(a == b))))
    | _=>R.fail
  | _=>R.fail
theorem aDY {bo:BinOp} {a b:Bool} (hx:ev L x=some (.bool a)) (hy:ev L y=some (.bool b)):(xbool P t bo a b).Ok (Gives P ρ L (.binOp bo t x y t') ty w):=by
  unfold xbool
  split
  · rename_i ht
    split
    · exact bQ fun n ds=>aA.aHK ht hx hy
    · exact bQ fun n ds=>aA.aAb ht hx hy
    · exact R.Ok.fail
  · exact R.Ok.fail
def mY (a b:ByteArray):Bool:=a.data.toList == b.data.toList
def xG (P:Program) (t:TypeId):Bool:=match P.underlying t with
  | some .string=>true
  | _=>false
def aGq (P:Program) (t:TypeId):Bool:=match P.underlying t with
  | some .bool=>true
  | _=>false
def gI (P:Program) (t:TypeId) (l:List V) (o:Nat):Option V:=match gJ P t with
  | some true=>match ay P t with
    | some m=>match Nat.ble (o+m) l.length with
      | true=>some (.ag ((l.drop o).take m))
      | false=>none
    | none=>none
  | some false=>l[o]?
  | none=>none
def aEd (P:Program) (E:TypeId→V→V→Option Bool) (l m:List V):List (TypeId × Nat)→Option Bool
  | []=>some true
  | (t,o)::r=>match gI P t l o with
    | some u=>match gI P t m o with
      | some v=>match E t u v with
        | some b1=>match aEd P E l m r with
          | some b2=>some (b1&&b2)
          | none=>none
        | none=>none
      | none=>none
    | none=>none
def aEi (P:Program) (E:V→V→Option Bool) (e c:Nat) (l m:List V):List Nat→Option Bool
  | []=>some true
  | i::r=>match gI P e l (i*c) with
    | some u=>match gI P e m (i*c) with
      | some v=>match E u v with
        | some b1=>match aEi P E e c l m r with
          | some b2=>some (b1&&b2)
          | none=>none
        | none=>none
      | none=>none
    | none=>none
def aG2 (P:Program) (E:TypeId→V→V→Option Bool) (t:TypeId) (l m:List V):Option Bool:=match tFs P t with
  | some fs=>aEd P E l m fs
  | none=>match mq P t with
    | some (n,e)=>match ay P e with
      | some c=>match (P.info? e).isSome with
        | true=>aEi P (E e) e c l m (List.range n)
        | false=>none
      | none=>none
    | none=>none
def eqS (P:Program) (t:TypeId) (A:List V→List V→Option Bool):V→V→Option Bool
  | .c (.int k p),.c (.int k' q)=>match o9 P t with
    | some k2=>match kEq k k2&&kEq k' k2 with
      | true=>some (p == q)
      | false=>none
    | none=>none
  | .c (.bool a),.c (.bool b)=>match aGq P t with
    | true=>some (a == b)
    | false=>none
  | .c (.string a),.c (.string b)=>match xG P t with
    | true=>some (mY a b)
    | false=>none
  | .ag l,.ag m=>A l m
  | _,_=>none
def eqV (P:Program):Nat→TypeId→V→V→Option Bool
  | 0,_,_,_=>none
  | d+1,t,u,v=>eqS P t (aG2 P (eqV P d) t) u v
theorem rC (a b:ByteArray):(a == b)=mY a b:=by
  unfold mY
  have:(a == b)=(a.data == b.data):=rfl
  rw [this]
  cases a; cases b
  simp only
  rename_i x y
  cases x; cases y; simp
theorem VRL.part {l:List V} {cs:List Value} {o:Nat} {u:V} (h:VRL ρ l cs) (hp:gI P t l o=some u):∃ v,jU P t cs.toArray o v∧VR ρ u v:=by
  unfold gI at hp
  split at hp
  · rename_i ha
    split at hp
    · rename_i m hs
      split at hp
      · rename_i hle
        simp only [Option.some.injEq] at hp
        subst hp
        refine ⟨.agg ((cs.drop o).take m).toArray,jU.agg ha hs ?_,.ag ((h.drop o).take m)⟩
        apply Array.ext'
        simp only [Array.toList_extract,List.extract_eq_take_drop]
        congr 1; omega
      · cases hp
    · cases hp
  · rename_i ha
    obtain ⟨v,h1,h2⟩:=h.get hp
    exact ⟨v,jU.one ha (by simpa using h1),h2⟩
  · cases hp
theorem aB5 {d:Nat} {E:TypeId→V→V→Option Bool} (hE:∀ t u v x y r,E t u v=some r→VR ρ u x→VR ρ v y→EqR P d t x y r) {l m:List V} {cs cs':List Value} (h1:VRL ρ l cs) (h2:VRL ρ m cs') :
    ∀ {fs r},aEd P E l m fs=some r→EqL P d cs.toArray cs'.toArray fs r
  | [],r,h=>by simp only [aEd,Option.some.injEq] at h; subst h; exact EqL.nil
  | (t,o)::q,r,h=>by
    simp only [aEd] at h
    split at h
    · rename_i u hu
      split at h
      · rename_i v hv
        split at h
        · rename_i b1 hb1
          split at h
          · rename_i b2 hb2
            simp only [Option.some.injEq] at h
            subst h
            obtain ⟨x,p1,r1⟩:=h1.part hu
            obtain ⟨y,p2,r2⟩:=h2.part hv
            exact EqL.cons p1 p2 (hE _ _ _ _ _ _ hb1 r1 r2) (aB5 hE h1 h2 hb2)
          · cases h
        · cases h
      · cases h
    · cases h
theorem aAz {d c:Nat} {E:V→V→Option Bool} (hE:∀ u v x y r,E u v=some r→VR ρ u x→VR ρ v y→EqR P d e x y r) {l m:List V} {cs cs':List Value} (h1:VRL ρ l cs) (h2:VRL ρ m cs') :
    ∀ {is r},aEi P E e c l m is=some r→EqI P d e c cs.toArray cs'.toArray is r
  | [],r,h=>by simp only [aEi,Option.some.injEq] at h; subst h; exact EqI.nil
  | i::q,r,h=>by
    simp only [aEi] at h
    split at h
    · rename_i u hu
      split at h
      · rename_i v hv
        split at h
        · rename_i b1 hb1
          split at h
          · rename_i b2 hb2
            simp only [Option.some.injEq] at h
            subst h
            obtain ⟨x,p1,r1⟩:=h1.part hu
            obtain ⟨y,p2,r2⟩:=h2.part hv
            exact EqI.cons p1 p2 (hE _ _ _ _ _ hb1 r1 r2) (aAz hE h1 h2 hb2)
          · cases h
        · cases h
      · cases h
    · cases h
theorem aGO {d:Nat} {E:TypeId→V→V→Option Bool} (hE:∀ t u v x y r,E t u v=some r→VR ρ u x→VR ρ v y→EqR P d t x y r) {l m:List V} {cs cs':List Value} (h1:VRL ρ l cs) (h2:VRL ρ m cs') {r:Bool}
    (h:aG2 P E t l m=some r):EqR P (d+1) t (.agg cs.toArray) (.agg cs'.toArray) r:=by
  unfold aG2 at h
  split at h
  · rename_i fs hfs
    exact EqR.struct hfs (aB5 hE h1 h2 h)
  · split at h
    · rename_i n e ha
      split at h
      · rename_i c hs
        split at h
        · rename_i hi
          refine EqR.arr (c:=c) ha ?_ hi (aAz (hE e) h1 h2 h)
          obtain ⟨inf,h3,h4⟩:=Option.map_eq_some_iff.1 hs
          simp [Program.cellsOf,h3,h4]
        · cases h
      · cases h
    · cases h
theorem aHQ {d:Nat} {A:List V→List V→Option Bool} (hA:∀ l m cs cs' r,A l m=some r→VRL ρ l cs→VRL ρ m cs'→EqR P (d+1) t (.agg cs.toArray) (.agg cs'.toArray) r) (u v:V) (x y:Value) (r:Bool) (h:eqS P t A u v=some r) (hu:VR ρ u x) (hv:VR ρ v y):EqR P (d+1) t x y r:=by
  unfold eqS at h
  split at h
  · cases hu; cases hv
    split at h
    · rename_i k2 hk2
      split at h
      · rename_i hb
        simp only [Bool.and_eq_true] at hb
        have e1:=mR hb.1
        have e2:=mR hb.2
        subst e1 e2
        simp only [Option.some.injEq] at h
        subst h
        exact EqR.int hk2
      · cases h
    · cases h
  · cases hu; cases hv
    split at h
    · rename_i hb
      simp only [Option.some.injEq] at h
      subst h
      refine EqR.bool ?_
      unfold aGq at hb
      split at hb
      · rename_i h5; exact h5
      · cases hb
    · cases h
  · cases hu; cases hv
    split at h
    · rename_i hb
      simp only [Option.some.injEq] at h
      subst h
      rw [← rC]
      refine EqR.str ?_
      unfold xG at hb
      split at hb
      · rename_i h5; exact h5
      · cases hb
    · cases h
  · cases hu with
    | ag h1=>cases hv with
      | ag h2=>exact hA _ _ _ _ _ h h1 h2
  · cases h
theorem aAc {D:Nat}:∀ (d:Nat) (t:TypeId) (u v:V) (x y:Value) (r:Bool),eqV P d t u v=some r→VR ρ u x→VR ρ v y→EqR P (D+d) t x y r
  | 0,_,_,_,_,_,_,h,_,_=>by simp [eqV] at h
  | d+1,t,u,v,x,y,r,h,hu,hv =>
    aHQ (d:=D+d) (fun _ _ _ _ _ h h1 h2=>aGO (fun t u v x y r=>aAc d t u v x y r) h1 h2 h) u v x y r h hu hv
def xstr (op:BinOp) (a b:ByteArray):R V:=match op with
  | .eql=>R.pure (.c (.bool (mY a b)))
  | .neq=>R.pure (.c (.bool (!mY a b)))
  | .add=>(iD (a.size+b.size≤1000000)).bind fun _=>R.pure (.c (.string ⟨⟨a.data.toList++b.data.toList⟩⟩))
  | _=>R.fail
theorem aFY (a b:ByteArray):(⟨⟨a.data.toList++b.data.toList⟩⟩:ByteArray)=a++b:=by
  apply ByteArray.ext
  rw [ByteArray.data_append]
  apply Array.ext'
  simp
theorem aDR {a b:ByteArray} (h:a.size+b.size≤1000000):(binOp .add t (.string a) (.string b)).run P w=.ok (.string (a++b)) w:=by
  have h2:¬ (((a.size+b.size:Nat):Int)>IntKind.i64.max):=by
    have:IntKind.i64.max=9223372036854775807:=by decide
    omega
  simp only [binOp,Op.stringOp]
  rw [if_neg h2]
  rfl
theorem wI {op:BinOp} {u v z:Value} (hx:ev L x=some u) (hy:ev L y=some v) (hg:eqGuard op t x y u v=(Pure.pure ():Sem Unit)) (hr:(binOp op t u v).run P w=.ok z w):∀ n ds,aA P n ds L (.binOp op t x y t') ty w z w:=fun n ds a d pos af g hf=>by
  simp only [execOp,hf.eval hx,hf.eval hy,hg]
  exact bn (by simpa [Sem.run_bind,Sem.run_pure,Result.andThen] using hr)
theorem aGa {bo:BinOp} {a b:ByteArray} (hx:ev L x=some (.string a)) (hy:ev L y=some (.string b)):(xstr bo a b).Ok (Gives P ρ L (.binOp bo t x y t') ty w):=by
  have e1:(a.toList == b.toList)=mY a b:=by unfold mY; rw [ByteArray.toList_eq,ByteArray.toList_eq]
  unfold xstr
  split
  · exact bQ (wI hx hy rfl (by simp [binOp,Op.stringOp,e1]))
  · exact bQ (wI hx hy rfl (by simp [binOp,Op.stringOp,e1]))
  · refine (dM _).andThen fun _ hp=>?_
    rw [aFY]
    exact bQ (wI hx hy rfl (aDR hp))
  · exact R.Ok.fail
def xagg (P:Program) (t:TypeId) (op:BinOp) (u v:V):R V:=match P.eqGuardType P.depth t with
  | true=>R.fail
  | false=>match op with
    | .eql=>(R.lift (eqV P 10 t u v)).bind fun b=>R.pure (.c (.bool b))
    | .neq=>(R.lift (eqV P 10 t u v)).bind fun b=>R.pure (.c (.bool (!b)))
    | _=>R.fail
theorem aFr {bo:BinOp} {l m:List V} {u v:Value} (hx:ev L x=some u) (hy:ev L y=some v) (hu:VR ρ (.ag l) u) (hv:VR ρ (.ag m) v):(xagg P t bo (.ag l) (.ag m)).Ok (Gives P ρ L (.binOp bo t x y t') ty w):=by
  unfold xagg
  split
  · exact R.Ok.fail
  · rename_i hg
    split
    · refine R.Ok.bind (R.Ok.lift fun b hb=>?_)
      have h:=aAc (D:=9990) 10 t _ _ _ _ b hb hu hv
      cases hu; cases hv
      exact bQ fun n ds=>aA.aIs (d:=10) rfl hg hx hy h
    · refine R.Ok.bind (R.Ok.lift fun b hb=>?_)
      have h:=aAc (D:=9990) 10 t _ _ _ _ b hb hu hv
      cases hu; cases hv
      exact bQ fun n ds=>aA.aIu (d:=10) rfl hg hx hy h
    · exact R.Ok.fail
def xbin (P:Program) (t:TypeId) (op:BinOp) (u v:V):R V:=match u,v with
  | .c (.int k p),.c (.int k' q)=>xarith op k k' p q
  | .c (.bool a),.c (.bool b)=>xbool P t op a b
  | .c (.string a),.c (.string b)=>xstr op a b
  | .ag l,.ag m=>xagg P t op (.ag l) (.ag m)
  | _,_=>R.fail
theorem aBZ {bo:BinOp} {u' v':V} {u v:Value} (hx:ev L x=some u) (hy:ev L y=some v) (hu:VR ρ u' u) (hv:VR ρ v' v):(xbin P t bo u' v').Ok (Gives P ρ L (.binOp bo t x y t') ty w):=by
  unfold xbin
  split
  · cases hu; cases hv; exact aDG hx hy
  · cases hu; cases hv; exact aDY hx hy
  · cases hu; cases hv; exact aGa hx hy
  · exact aFr hx hy hu hv
  · exact R.Ok.fail
def xun (op:UnOp) (u:V):R V:=match op,u with
  | .neg,.c (.int k m)=>R.pure (.c (.int k (k.wrap (0-m))))
  | .not,.c (.bool b)=>R.pure (.c (.bool (!b)))
  | .xor,.c (.int k m)=>R.pure (.c (.int k (SL.bitxor k (if k.signed then -1 else k.max) m)))
  | _,_=>R.fail
theorem aHg {uo:UnOp} {u':V} {u:Value} (hx:ev L x=some u) (hu:VR ρ u' u):(xun uo u').Ok (Gives P ρ L (.unOp uo t x) ty w):=by
  unfold xun
  split
  · cases hu; exact bQ fun n ds=>aA.neg hx
  · cases hu; exact bQ fun n ds=>aA.not hx
  · cases hu; exact bQ fun n ds=>aA.com rfl hx
  · exact R.Ok.fail
def xconv (P:Program) (t t':TypeId) (u:V):R V:=match u with
  | .c (.int k p)=>match (P.underlying t).isSome with
    | false=>R.fail
    | true=>match o9 P t' with
      | some k'=>R.pure (.c (.int k' (k'.wrap p)))
      | none=>R.fail
  | .c (.string a)=>match (P.underlying t).isSome,P.underlying t' with
    | true,some .string=>R.pure (.c (.string a))
    | _,_=>R.fail
  | _=>R.fail
theorem aDX {u':V} {u:Value} (hx:ev L x=some u) (hu:VR ρ u' u):(xconv P t t' u').Ok (Gives P ρ L (.convert t t' x) ty w):=by
  unfold xconv
  split
  · cases hu
    split
    · exact R.Ok.fail
    · rename_i ht
      split
      · rename_i hk; exact bQ fun n ds=>aA.conv ht hk hx
      · exact R.Ok.fail
  · cases hu
    split
    · rename_i h1 h2
      refine bQ fun n ds a d pos af g hf=>?_
      obtain ⟨du,hd⟩:=Option.isSome_iff_exists.1 h1
      simp only [execOp,hf.eval hx]
      refine bn ?_
      simp only [convert,Sem.run_bind,run_underlying hd,run_underlying h2,Result.andThen]
      cases du <;> rfl
    · exact R.Ok.fail
  · exact R.Ok.fail
def xpick (z u v:V):R V:=match z with
  | .c (.bool b)=>(zq b).bind fun b'=>match b' with
    | true=>R.pure u
    | false=>R.pure v
  | _=>R.fail
theorem aEc {z x y:Operand} {z' u' v':V} {zv u v:Value} (hz:ev L z=some zv) (hx:ev L x=some u) (hy:ev L y=some v) (hzv:VR ρ z' zv) (hu:VR ρ u' u) (hv:VR ρ v' v):(xpick z' u' v').Ok (Gives P ρ L (.pick z x y) ty w):=by
  unfold xpick
  split
  · cases hzv
    refine (vQ _).andThen fun b' hb=>?_
    subst hb
    split
    · exact R.Ok.pure ⟨u,hu,fun n ds=>aA.pick hz hx hy rfl⟩
    · exact R.Ok.pure ⟨v,hv,fun n ds=>aA.pick hz hx hy rfl⟩
  · exact R.Ok.fail
end
end Go.RX
