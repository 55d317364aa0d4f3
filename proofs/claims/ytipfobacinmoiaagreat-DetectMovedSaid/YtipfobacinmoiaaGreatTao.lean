/- Part of a proof: laws and walks. -/
import Derived.Test.YtipfobacinmoiaaGreatTah
import Derived.Shelf.SlSortCmp.NoneTotal
import Derived.Test.YtipfobacinmoiaaGreatTaa
import Derived.Sort.Grow
import Derived.Test.YtipfobacinmoiaaGreatTal
import Derived.Test.YtipfobacinmoiaaGreatTac
import Derived.Test.YtipfobacinmoiaaGreatTan
import Derived.Test.YtipfobacinmoiaaGreatLayb
import Derived.Test.YtipfobacinmoiaaGreatTag
set_option linter.unusedVariables false
set_option linter.unusedSimpArgs false
namespace Go.SL
open Go Go.Proofs Go.Shelf Go.RowKit Go.Sort Go.Lib
def gZ {T:Type} (lt:T→T→Bool) (l:List T):List T:=l.mergeSort fun x y=>!lt y x
theorem oz {T:Type} (lt:T→T→Bool) (l:List T):(gZ lt l).length=l.length:=List.length_mergeSort _
section
variable {T:Type} [Inhabited T] {E:T→List Value} {k:Nat}
theorem aDI (hk:∀ x,(E x).length=k) (l:List T) (j:Nat) (hj:j<l.length*k):(encs E l)[j]? = some ((E l.toArray[j/k]!)[j % k]!):=by
  have k0 : 0 < k := by rcases Nat.eq_zero_or_pos k with h | h; · subst h; omega
                        · exact h
  have h1:j/k<l.length:=(Nat.div_lt_iff_lt_mul k0).2 hj
  have h2:l[j/k]? = some l[j/k]:=List.getElem?_eq_getElem h1
  have h3:=qQ (enc:=E) hk h2 (Nat.mod_lt j k0)
  rw [show j/k*k+j % k=j from by rw [Nat.mul_comm]; exact Nat.div_add_mod j k] at h3
  rw [h3]
  have h4:l.toArray[j/k]! = l[j/k]:=by simp [h1]
  rw [h4]
  have h5:j % k<(E l[j/k]).length:=by rw [hk]; exact Nat.mod_lt j k0
  rw [List.getElem?_eq_getElem h5,getElem!_pos (E l[j/k]) (j % k) h5]
theorem zF (hk:∀ x,(E x).length=k) (l:List T):(flatK E k l.toArray).toList=encs E l:=by
  apply List.ext_getElem?
  intro j
  have hs:(flatK E k l.toArray).size=l.length*k:=by simp
  by_cases hj:j<l.length*k
  · have h1:=get_flatK E k l.toArray j (by simpa using hj)
    rw [aDI hk l j hj,← h1,Array.getElem?_toList,Array.getElem?_eq_getElem (by omega),getElem!_pos (flatK E k l.toArray) j (by omega)]
  · rw [List.getElem?_eq_none (by rw [Array.length_toList]; omega),List.getElem?_eq_none (by rw [kL hk]; omega)]
theorem wX {w:World} {g:Nat} {cur:Array Value} {e:TypeId} {xs:Array Value} (hb:w.heap[g]? = some (.cells cur e (0,0))) (ht:cur.toList.take xs.size=xs.toList):Holds id w g 0 xs:=by
  intro j hj
  refine ⟨?_,by simp [World.frozen?,hb]⟩
  have h1:(cur.toList.take xs.size)[j]? = xs.toList[j]?:=by rw [ht]
  rw [List.getElem?_take_of_lt hj,Array.getElem?_toList,Array.getElem?_toList,Array.getElem?_eq_getElem hj] at h1
  simp only [World.cell?,hb,Nat.zero_add,Option.isSome_none,Bool.false_eq_true,if_false,id_eq]
  rw [h1,getElem!_pos xs j hj]
theorem aA1 (cur F:Array Value) (h:F.size≤cur.size):(putCells id 0 F cur).toList.take F.size=F.toList:=by
  apply List.ext_getElem?
  intro j
  by_cases hj:j<F.size
  · rw [List.getElem?_take_of_lt hj,Array.getElem?_toList,Array.getElem?_toList]
    simp [putCells,hj,show j<cur.size by omega]
  · rw [List.getElem?_take_eq_none (by omega),List.getElem?_eq_none (by rw [Array.length_toList]; omega)]
theorem heap_put {w:World} {g n:Nat} {os:Array Obj} {cur:Array Value} {e:TypeId} {fr:Nat × Nat} (F:Array Value) (hb:w.heap[g]? = some (.cells cur e fr)) :
    (grow (putRow id (Sort.ahead w n) g 0 F) os).heap[g]? = some (.cells (putCells id 0 F cur) e fr):=by
  have hg:g<w.heap.size:=(Array.getElem?_eq_some_iff.1 hb).1
  rw [heap_grow_old _ _ (by simpa using hg)]
  simp [putRow,mapBlock,Sort.ahead,Array.getElem?_modify,hb,onCells]
theorem nJ {w:World} {g n:Nat} {os:Array Obj} (F:Array Value):w.grownBy (grow (putRow id (Sort.ahead w n) g 0 F) os) (some g):=by
  refine ⟨rfl,rfl,rfl,by simp,fun k hk hne=>?_⟩
  rw [heap_grow_old _ _ (by simpa using hk)]
  have:g≠k:=fun e=>hne (by rw [e])
  simp [putRow,mapBlock,Sort.ahead,Array.getElem?_modify,this]
end
end Go.SL

namespace Go.SL
open Go Go.Sort
theorem aDb {α:Type} (a:Ask α):∀ w:World,w.drawn≤(w.ask a).2.drawn:=by
  induction a with
  | done a=>intro w; exact Nat.le_refl _
  | ask what range k ih =>
    intro w
    simp only [World.ask]
    split
    · exact ih _ w
    · exact Nat.le_trans (Nat.le_succ w.drawn) (ih _ { w with drawn:=w.drawn+1 })
theorem aDc (w:World) (c:Sys):w.drawn≤(w.sys c).2.drawn:=by
  have h:=aDb (Kernel.perform c w.os) w
  unfold World.sys
  split
  · exact Nat.le_refl _
  · rename_i heq
    rw [heq] at h
    exact h
theorem mR {ε α β:Type} {x:Except ε α} {f:α→Except ε β} {y:β} (h:(x >>= f)=.ok y):∃ a,x=.ok a∧f a=.ok y:=by
  cases x with
  | error e=>cases h
  | ok a=>exact ⟨a,rfl,h⟩
theorem su {p:Program} {w w':World} {at_:Addr} {u:TypeId} {a:Addr} {v:Value} {at':Bool} {l:List Addr} (h:w.viewStore p at_ u a v at'=.ok (w',l)):w.drawn≤w'.drawn:=by
  unfold World.viewStore at h
  split at h
  all_goals
    dsimp only at h
    split at h
    · obtain ⟨_,h1,_⟩:=mR h
      cases h1
    obtain ⟨x,_,h⟩:=mR h
  · split at h
    · obtain ⟨_,h1,_⟩:=mR h
      cases h1
    obtain ⟨c,_,h⟩:=mR h
    simp only [pure,Except.pure,Except.ok.injEq,Prod.mk.injEq] at h
    rw [← h.1]
    exact Nat.le_refl _
  · cases h
theorem uj {p:Program} {w w':World} {a:Addr} {v:Value} {at':Bool} {l:List Addr} (h:w.farStore p a v at'=.ok (w',l)):w.drawn≤w'.drawn:=by
  unfold World.farStore at h
  split at h
  · split at h
    · rename_i heq
      cases h
      exact su heq
    · cases h
  · cases h
def Rup {α:Type} (n:Nat):Result α→Prop
  | .ok _ w=>n≤w.drawn
  | .halt _ w=>n≤w.drawn
theorem sS (w:World) (a:Addr) (n:Nat):(w.freeze a n).drawn=w.drawn:=by unfold World.freeze; split <;> rfl
theorem Rup.le {α:Type} {n n':Nat} {r:Result α} (h:Rup n' r) (hn:n≤n'):Rup n r:=by cases r <;> exact Nat.le_trans hn h
theorem tC {α:Type} (p:Program) (s:Sem α):∀ w:World,Rup w.drawn (s.run p w):=by
  induction s with
  | pure a=>intro w; exact Nat.le_refl _
  | load m a k ih =>
    intro w
    simp only [Sem.run]
    repeat' split
    all_goals first
      | exact ih _ w
      | exact Nat.le_refl _
  | store m a v k ih =>
    intro w
    cases v
    case agg=>exact Nat.le_refl _
    case tuple=>exact Nat.le_refl _
    all_goals
      simp only [Sem.run]
      repeat' split
      all_goals first
        | exact Nat.le_refl _
        | exact ih (w.setCell _ _)
        | (rename_i heq; exact (ih _).le (uj heq))
  | new o k ih=>intro w; exact ih _ _
  | shape r k ih=>intro w; exact ih _ w
  | freeze a n k ih=>intro w; exact (ih (w.freeze a n)).le (by rw [sS]; exact Nat.le_refl _)
  | frozen a k ih=>intro w; exact ih _ w
  | getObj r k ih =>
    intro w
    simp only [Sem.run]
    repeat' split
    all_goals first
      | exact ih _ w
      | exact Nat.le_refl _
  | setObj r o k ih =>
    intro w
    simp only [Sem.run]
    repeat' split
    all_goals first
      | exact Nat.le_refl _
      | exact ih _
  | choose q k ih =>
    intro w
    simp only [Sem.run]
    split
    · exact ih _ w
    · exact (ih _ _).le (Nat.le_succ _)
  | sys c k ih=>intro w; exact (ih _ _).le (aDc w c)
  | program k ih=>intro w; exact ih _ w
  | mark m k ih=>intro w; exact ih w
  | halt h=>intro w; exact Nat.le_refl _
theorem bV {α:Type} {p:Program} {s:Sem α} {w w':World} {a:α} (h:s.run p w=.ok a w'):w.drawn≤w'.drawn:=by
  have:=tC p s w
  rw [h] at this
  exact this
theorem jH {α:Type} {p:Program} {s:Sem α} {w w':World} {a:Halt} (h:s.run p w=.halt a w'):w.drawn≤w'.drawn:=by
  have:=tC p s w
  rw [h] at this
  exact this
def Gup (n:Nat):GStep→Prop
  | .go _ w _=>n≤w.drawn
  | .comm _ _ _ _ w _=>n≤w.drawn
  | .spawn _ _ w _=>n≤w.drawn
  | .count _ w _=>n≤w.drawn
  | .timer _ _ w _=>n≤w.drawn
  | .alone _ _ w _=>n≤w.drawn
  | .newcoro _ _ _ w _=>n≤w.drawn
  | .coroswitch _ _ _ w _=>n≤w.drawn
  | .collect _ w _=>n≤w.drawn
  | .watch _ w _=>n≤w.drawn
  | .ended _ _ _=>True
theorem Gup.after {n:Nat} {es:Array Event} {g:GStep} (h:Gup n g):Gup n (GStep.after es g):=by cases g <;> exact h
theorem Gup.le {n n':Nat} {g:GStep} (h:Gup n' g) (hn:n≤n'):Gup n g:=by cases g <;> first | trivial | exact Nat.le_trans hn h
def Sup (n:Nat):Stepped→Prop
  | .next m=>n≤m.world.drawn
  | .ended _ _=>True
theorem Gup.ite {n:Nat} {c:Prop} [Decidable c] {a b:GStep} (ha:Gup n a) (hb:Gup n b):Gup n (if c then a else b):=by split <;> assumption
theorem Gup.elim {α:Type} {n:Nat} {o:Option α} {a:GStep} {f:α→GStep} (ha:Gup n a) (hf:∀ x,Gup n (f x)):Gup n (o.elim a f):=by cases o <;> first | exact ha | exact hf _
theorem Sup.le {n n':Nat} {g:Stepped} (h:Sup n' g) (hn:n≤n'):Sup n g:=by cases g <;> first | trivial | exact Nat.le_trans hn h
theorem mQ (fr:Frame) (ahead:List ByteArray) (m:String) (whole:Bool) (w:World):Gup w.drawn (dieOf fr ahead m whole w):=Nat.le_refl _
theorem pu (n:Nat) (w:World) (fd:Nat) (text:ByteArray) (o:Outcome):Gup n (endWith w fd text o):=by
  unfold endWith
  simp only
  repeat' split
  all_goals trivial
theorem kD (p:Program) (fr:Frame) (v:Value) (w:World):Gup w.drawn (endPrinting p fr v w):=by
  unfold endPrinting
  simp only
  repeat' split
  all_goals first
    | trivial
    | exact Nat.le_refl _
theorem nT (p:Program) (fr:Frame) (cs:List Frame) (dy:Option Dying) (m:String) (w:World):Gup w.drawn (endFatal p fr cs dy m w):=by
  unfold endFatal
  simp only
  split
  · rename_i heq
    exact (mQ _ _ _ _ _).le (bV heq)
  · trivial
  · trivial
theorem xJ (p:Program) (fr:Frame) (d:Dying) (f:Fatal) (w:World):Gup w.drawn (writeOn p fr d f w):=by
  unfold writeOn
  simp only [Sem.runT_eq]
  split
  · trivial
  · split
    all_goals first
      | trivial
      | (rename_i heq; injection heq with h1 h2; first | exact bV h1 | exact jH h1)
theorem aDx (p:Program) (fr:Frame) (d:Dying) (w:World):Gup w.drawn (die p fr d w):=by
  unfold die
  split
  · exact xJ ..
  · split
    · split
      · exact Nat.le_refl _
      · exact pu ..
    · simp only
      split
      · exact Nat.le_refl _
      · split
        · rename_i heq; exact bV heq
        · trivial
      · simp only [Sem.runT_eq]
        refine Gup.after ?_
        split
        all_goals first
          | trivial
          | (rename_i heq; exact bV heq)
          | (rename_i heq; exact (kD ..).le (jH heq))
      · trivial
theorem aBo (p:Program) (fr:Frame) (cs:List Frame) (dy:Option Dying) (g:Nat) (w:World):Gup w.drawn (early p fr cs dy g w):=by
  unfold early
  simp only
  repeat' split
  all_goals first
    | trivial
    | exact Nat.le_refl _
    | (dsimp only [Gup]; apply bV; assumption)
theorem jE (p:Program) (main:Bool) (fr:Frame) (cs:List Frame) (dy:Option Dying) (v:Value) (w:World):Gup w.drawn (doReturn p main fr cs dy v w):=by
  unfold doReturn
  simp only
  repeat' split
  all_goals first
    | trivial
    | exact Nat.le_refl _
theorem oI (p:Program) (fr:Frame) (cs:List Frame) (dy:Option Dying) (d:Deferred) (w:World):Gup w.drawn (callDeferred p fr cs dy d w):=by
  unfold callDeferred
  refine Gup.ite trivial ?_
  simp only [Sem.runT_eq]
  refine Gup.after ?_
  have h:=tC p (invoke d.target d.args) w
  generalize Sem.run p (invoke d.target d.args) w=r at h
  cases r with
  | ok n w' =>
    cases n with
    | recover=>simp only; split <;> exact h
    | alone b v=>cases b <;> first | exact h | trivial
    | coroswitch c b=>cases b <;> first | exact h | trivial
    | _=>first | exact h | trivial
  | halt n w' =>
    cases n with
    | fatal m=>exact (nT ..).le h
    | throw m=>exact (mQ ..).le h
    | _=>first | exact h | trivial
theorem aAG (p:Program) (main:Bool) (fr:Frame) (cs:List Frame) (dy:Option Dying) (w:World):Gup w.drawn (unwind p main fr cs dy w):=by
  unfold unwind
  split
  · simp only [Sem.runT_eq]
    refine Gup.after ?_
    split
    · rename_i heq; exact bV heq
    · trivial
  · exact oI ..
  · split
    · trivial
    · split
      · trivial
      · split
        · exact Nat.le_refl _
        · split
          · split
            · exact Nat.le_refl _
            · split
              · rename_i heq; exact bV heq
              · trivial
              · trivial
          · split
            · exact kD ..
            · trivial
    · split
      · exact jE ..
      · simp only [Sem.runT_eq]
        refine Gup.after ?_
        split
        · rename_i heq; exact (jE ..).le (bV heq)
        · trivial
        · trivial
theorem ic (p:Program) (l:Bool) (fr:Frame) (cs:List Frame) (dy:Option Dying) (s:Sem Next) (w:World):Gup w.drawn (stepG.apply p l fr cs dy s w):=by
  have hr:(if l=true then s.runT p w #[] else (s.run p w,#[])).1=s.run p w:=by cases l <;> simp
  unfold stepG.apply
  dsimp only
  generalize (if l=true then s.runT p w #[] else (s.run p w,#[]))=r at hr
  obtain ⟨r,es⟩:=r
  simp only at hr
  subst hr
  dsimp only
  refine Gup.after ?_
  have h:=tC p s w
  generalize Sem.run p s w=r at h
  cases r with
  | ok n w' =>
    cases n with
    | recover=>simp only; split <;> exact h
    | callThen=>simp only; split <;> exact h
    | row=>simp only; split <;> exact h
    | stack=>simp only; split <;> exact h
    | spawn=>exact Gup.ite ((mQ ..).le h) h
    | _=>first | exact h | trivial
  | halt n w' =>
    cases n with
    | fatal m=>exact (nT ..).le h
    | throw m=>exact (mQ ..).le h
    | unsupported u=>cases u <;> first | trivial | exact (aBo ..).le h
    | _=>first | exact h | trivial
theorem yA (p:Program) (l:Bool) (fr:Frame) (cs:List Frame) (dy:Option Dying) (w:World):Gup w.drawn (stepG.oper p l fr cs dy w):=by
  unfold stepG.oper
  split
  · trivial
  · split
    · exact ic ..
    · exact ic ..
theorem aCg (p:Program) (main l:Bool) (fr:Frame) (cs:List Frame) (dy:Option Dying) (w:World):Gup w.drawn (stepG.exec p main l fr cs dy w):=by
  unfold stepG.exec
  dsimp only
  split
  all_goals first
    | trivial
    | exact Nat.le_refl _
    | exact ic ..
    | skip
  all_goals (try refine Gup.elim ?_ (fun x=>?_))
  all_goals try simp only [Sem.runT_eq]
  all_goals first
    | exact Nat.le_refl _
    | skip
  all_goals (repeat' (first | exact ic .. | (refine (ic ..).le ?_; apply bV; assumption) | exact yA .. | (refine (jE ..).le ?_; apply bV; assumption) | refine Gup.after ?_ | split))
  all_goals first
    | trivial
    | exact Nat.le_refl _
    | exact ic ..
    | exact yA ..
    | (refine (jE ..).le ?_; apply bV; assumption)
    | (refine (ic ..).le ?_; apply bV; assumption)
    | (dsimp only [Gup]; apply bV; assumption)
    | (dsimp only [Gup]; apply jH; assumption)
theorem aA5 (p:Program) (main:Bool) (g:Goroutine) (w:World) (l:Bool):Gup w.drawn (stepG p main g w l):=by
  obtain ⟨fr,cs,st,dy,off⟩:=g
  unfold stepG
  dsimp only
  split
  · exact aDx ..
  · exact aCg ..
  · exact aAG ..
theorem yE (p:Program) (gs:Array Goroutine) (rest:Rest) (w:World):Sup w.drawn (look p gs rest w):=by
  unfold look
  split
  · dsimp only
    split
    · trivial
    · split
      · trivial
      · split
        · dsimp only [Sup]; apply bV; assumption
        · trivial
        · trivial
  · trivial
theorem oV (p:Program) (rest:Rest) (gs:Array Goroutine) (i:Nat) (g:Goroutine) (cases:Array CommCase) (bl:Bool) (sh:CommShape) (w:World):Sup w.drawn (communicate p rest gs i g cases bl sh w).1:=by
  unfold communicate
  dsimp only
  split
  · trivial
  split
  · split
    · split
      · rename_i heq
        dsimp only [Sup]
        unfold waitingAt at heq
        split at heq
        · split at heq
          · cases heq; exact Nat.le_refl _
          · cases heq
        · cases heq; exact Nat.le_refl _
      · trivial
    · exact Nat.le_refl _
  · split
    · trivial
    · rename_i heq
      have h:=bV heq
      repeat' split
      all_goals first
        | trivial
        | exact h
        | (refine Nat.le_trans h ?_; dsimp only; apply bV; assumption)
        | (refine Nat.le_trans h ?_; dsimp only; apply jH; assumption)
theorem aAw (w:World) (c:Nat):(drain w c).2.drawn=w.drawn:=by
  unfold drain
  split <;> rfl
theorem sF (m:Machine) (k:Nat) (t:Timer) (a b:Nat):(retime m k t a b).2.world.drawn=m.world.drawn:=by
  unfold retime
  dsimp only
  split
  · exact aAw ..
  · rfl
theorem vR {m m':Machine} {var:Addr} {f:Nat→Timer→Value × Machine} {v:Value} (hf:∀ k t,(f k t).2.world.drawn=m.world.drawn) (h:timerOp.named m var f=.ok (v,m')):m'.world.drawn=m.world.drawn:=by
  unfold timerOp.named at h
  split at h
  · rename_i k _
    have:=hf k (m.rest.timers.getD k default)
    cases hx:f k (m.rest.timers.getD k default)
    rw [hx] at h this
    cases h
    exact this
  · cases h
theorem xV {m m':Machine} {op:TimerOp} {v:Value} (h:timerOp m op=.ok (v,m')):m'.world.drawn=m.world.drawn:=by
  unfold timerOp at h
  split at h
  · split at h
    · cases h; rfl
    · split at h
      · split at h
        · cases h
        · cases h; rfl
      · cases h
  · exact vR (fun k t=>sF ..) h
  · split at h
    · rename_i m2 heq
      have h2:m2.world.drawn=m.world.drawn:=by
        unfold timerOp.opened at heq
        split at heq
        · split at heq
          · cases heq; rfl
          · cases heq
        · cases heq; rfl
      exact vR (fun k t=>(sF ..).trans h2) h
    · cases h
  · cases h; rfl
theorem aAg (p:Program) (m:Machine) (k:Nat):Sup m.world.drawn (serve p m k):=by
  unfold serve
  split
  · trivial
  · exact Nat.le_refl _
  · dsimp only
    split
    · trivial
    · exact Nat.le_refl _
theorem aDv (p:Program) (m:Machine) (i:Nat) (l:Bool):Sup m.world.drawn (Go.runT p m i l).1:=by
  unfold Go.runT
  dsimp only
  have h:=aA5 p (i == 0) (m.gs.swapAt! i { (default:Goroutine) with status:=.finished }).1 m.world l
  split
  all_goals (rename_i heq; rw [heq] at h; try dsimp only [Gup] at h)
  · trivial
  · have h2:=oV p m.rest (m.gs.swapAt! i { (default:Goroutine) with status:=.finished }).2 i ‹_› ‹_› ‹_› ‹_› ‹_›
    generalize communicate p m.rest _ i _ _ _ _ _=c at h2 ⊢
    obtain ⟨r,more⟩:=c
    dsimp only at h2 ⊢
    cases r with
    | next m'=>exact Nat.le_trans h h2
    | ended=>trivial
  · exact h
  · exact h
  · split
    · trivial
    · exact h
  · exact h
  · exact (yE ..).le h
  · exact h
  · exact h
  · dsimp only
    split
    · exact h
    · exact h
    · trivial
  · dsimp only
    split
    · rename_i heq2
      exact Nat.le_trans h (Nat.le_of_eq (xV heq2).symm)
    · exact h
    · trivial
    · trivial
def Mup (n:Nat):Move→Prop
  | .goroutine m _=>n≤m.world.drawn
  | .machine s _=>Sup n s
theorem Mup.le {n n':Nat} {g:Move} (h:Mup n' g) (hn:n≤n'):Mup n g:=by
  cases g with
  | goroutine=>exact Nat.le_trans hn h
  | machine s _=>exact Sup.le (n':=n') h hn
theorem tK (p:Program) (rs:List Nat) (m:Machine):Mup m.world.drawn (match (choose (.sched rs.length)).run p m.world with
      | .halt _ w=>.machine (.ended (.stuck "sched" "") w)
      | .ok k world =>
        if rs.length≤1 then .goroutine { m with world } (rs.getD k 0) else
        match (choose (.extern "sched.slice" 65536)).run p world with
        | .halt _ w=>.machine (.ended (.stuck "sched.slice" "") w)
        | .ok n world=>.goroutine { m with world,rest:={ m.rest with slice:=if n=0 then none else some (rs.getD k 0,n) } } (rs.getD k 0)):=by
  split
  · trivial
  · rename_i heq
    have h:=bV heq
    split
    · exact h
    · split
      · trivial
      · rename_i heq2; exact Nat.le_trans h (bV heq2)
theorem oq (p:Program) (m:Machine):Mup m.world.drawn (askOn p m):=by
  unfold askOn
  dsimp only
  split
  · trivial
  · rename_i k world heq
    have h:m.world.drawn≤world.drawn:=bV heq
    split
    · exact Sup.le (n':=world.drawn) (aAg ..) h
    · split
      · split
        · exact h
        · split
          · exact h
          · have h2:=pu 0 world 2 (bytes ("fatal error: "++if (m.gs.any fun g=>g.status == .blocked||g.status == .parked)=true then "all goroutines are asleep - deadlock!" else "no goroutines (main called runtime.Goexit) - deadlock!")++bytes "\n") (.fatal "")
            split <;> trivial
      · split
        · exact (tK p _ { m with world }).le h
        · split
          · trivial
          · rename_i heq2
            exact (tK p _ { m with world:=_ }).le (Nat.le_trans h (bV heq2))
          · rename_i heq2
            have h3:=bV heq2
            exact Nat.le_trans h h3
          · rename_i heq2
            have h3:=bV heq2
            exact (tK p _ (Machine.advanceTo { m with world:=_ } _)).le (Nat.le_trans h h3)
theorem yJ (p:Program) (m:Machine):Mup m.world.drawn (Go.ask p m):=by
  unfold Go.ask
  split
  · split
    · trivial
    · rename_i world heq
      have h:m.world.drawn≤world.drawn:=bV heq
      have h2:=yE p m.gs m.rest world
      split
      · rename_i m' heq2
        rw [heq2] at h2
        exact (oq p m').le (Nat.le_trans h h2)
      · exact Sup.le (n':=world.drawn) h2 h
    · rename_i world heq _
      exact (oq p { m with world:=_ }).le (bV (by assumption))
  · exact oq ..
theorem aCX (p:Program) (m:Machine):Mup m.world.drawn (move p m):=by
  unfold move
  split
  · split
    · exact Nat.le_refl _
    · trivial
  · split
    · split
      · exact Nat.le_refl _
      · exact yJ p { m with rest:=_ }
    · exact yJ ..
theorem aB6 {p:Program} {m m':Machine} (h:step p m=.next m'):m.world.drawn≤m'.world.drawn:=by
  have h1:=aCX p m
  unfold step stepT at h
  split at h
  · rename_i m1 i1 heq
    rw [heq] at h1
    have h2:=aDv p m1 i1 true
    rw [h] at h2
    exact Nat.le_trans h1 h2
  · rename_i heq
    rw [heq] at h1
    dsimp only at h
    subst h
    exact h1
theorem tu {p:Program}:∀ (n:Nat) {m m':Machine},runN p n m=.next m'→m.world.drawn≤m'.world.drawn
  | 0,m,m',h=>by
    simp only [runN,Stepped.next.injEq] at h
    rw [h]; exact Nat.le_refl _
  | n+1,m,m',h=>by
    unfold runN at h
    split at h
    · rename_i heq
      exact Nat.le_trans (aB6 heq) (tu n h)
    · rename_i hn
      exact absurd h (hn _)
theorem aBk {P:Program} {fr fr':Frame} {cs cs':List Frame} {w w':World} {e:Ending} (h:Comes P (lone fr cs w) (lone fr' cs' w') e):e=.outgrown∨w.drawn≤w'.drawn:=by
  cases e with
  | outgrown=>exact .inl rfl
  | returned v=>obtain ⟨n,hn⟩:=h; exact .inr (tu n hn)
  | panicked c=>obtain ⟨n,hn⟩:=h; exact .inr (tu n hn)
theorem aBe {P:Program} {f:FuncId} {args:Array Value} {w:World} {R:Ending→World→Prop} (h:Calls P f args w R) :
    Calls P f args w fun e w'=>R e w'∧(e=.outgrown∨w.drawn≤w'.drawn):=fun cs=>by
  obtain ⟨e,w',fr,h1,h2,h3⟩:=h cs
  exact ⟨e,w',fr,⟨h1,aBk h2⟩,h2,h3⟩
theorem St.grown {w w':World} {M:List Asr} (h:St w w' noX [] M) (hd:w.drawn≤w'.drawn):∃ q os',w'=grow (w.drewN q) os':=by
  refine ⟨w'.drawn-w.drawn,w'.heap.extract w.heap.size w'.heap.size,?_⟩
  have hh:w'.heap=w.heap++w'.heap.extract w.heap.size w'.heap.size:=by
    apply Array.ext_getElem?
    intro i
    by_cases hi:i<w.heap.size
    · rw [Array.getElem?_append_left hi]
      exact h.old i hi (fun h=>h)
    · have hs:=h.size
      rw [Array.getElem?_append_right (by omega),Array.getElem?_extract]
      by_cases h2:i<w'.heap.size
      · rw [if_pos (by omega)]
        congr 1
        omega
      · rw [if_neg (by omega),Array.getElem?_eq_none (by omega)]
  obtain ⟨hp',tp,dr,os,out⟩:=w'
  have h1:=h.os; have h2:=h.tape; have h3:=h.output
  simp only at h1 h2 h3 hh hd
  subst h1 h2 h3
  unfold grow World.drewN
  simp only [World.mk.injEq,and_true,true_and]
  exact ⟨hh,by omega⟩
theorem rz {P:Program} {f:FuncId} {args:Array Value} {w:World} {G:Type} {rv:G→Value} {Q:G→World→Prop} (h:Ret P f args w rv Q) (hQ:∀ g w',Q g w'→∃ M,St w w' noX [] M) :
    Calls P f args w fun e w'=>∃ g,e=.returned (rv g)∧Q g w'∧∃ q os',w'=grow (w.drewN q) os' :=
  Calls.mono (aBe h) fun e w' h=>by
    obtain ⟨⟨g,he,hq⟩,hu⟩:=h
    obtain ⟨M,hM⟩:=hQ g w' hq
    refine ⟨g,he,hq,hM.grown (hu.resolve_left (fun h=>?_))⟩
    rw [h] at he
    cases he
end Go.SL

namespace Go.SL
open Go Go.Proofs Go.Shelf Go.RowKit Go.Sort Go.Lib
section
variable {T:Type} [Inhabited T] {E:T→Value}
theorem zN {w:World} {g:Nat} {cur:Array Value} {e:TypeId} {l:List T} (hb:w.heap[g]? = some (.cells cur e (0,0))) (ht:cur.toList.take l.length=l.map E):Holds E w g 0 l.toArray:=by
  intro j hj
  have hj:j<l.length:=by simpa using hj
  refine ⟨?_,by simp [World.frozen?,hb]⟩
  have h1:(cur.toList.take l.length)[j]? = (l.map E)[j]?:=by rw [ht]
  rw [List.getElem?_take_of_lt hj,Array.getElem?_toList,List.getElem?_map,List.getElem?_eq_getElem hj] at h1
  simp only [World.cell?,hb,Nat.zero_add,Option.isSome_none,Bool.false_eq_true,if_false]
  rw [h1]
  simp [hj]
theorem aAL (cur:Array Value) (l:List T) (h:l.length≤cur.size):(putCells E 0 l.toArray cur).toList.take l.length=l.map E:=by
  apply List.ext_getElem?
  intro j
  by_cases hj:j<l.length
  · rw [List.getElem?_take_of_lt hj,Array.getElem?_toList]
    simp [putCells,hj,show j<cur.size by omega]
  · rw [List.getElem?_take_eq_none (by omega),List.getElem?_eq_none (by rw [List.length_map]; omega)]
theorem zk {w:World} {g n:Nat} {os:Array Obj} {cur:Array Value} {e:TypeId} {fr:Nat × Nat} (F:Array T) (hb:w.heap[g]? = some (.cells cur e fr)) :
    (grow (putRow E (Sort.ahead w n) g 0 F) os).heap[g]? = some (.cells (putCells E 0 F cur) e fr):=by
  have hg:g<w.heap.size:=(Array.getElem?_eq_some_iff.1 hb).1
  rw [heap_grow_old _ _ (by simpa using hg)]
  simp [putRow,mapBlock,Sort.ahead,Array.getElem?_modify,hb,onCells]
theorem lV {w:World} {g n:Nat} {os:Array Obj} (F:Array T):w.grownBy (grow (putRow E (Sort.ahead w n) g 0 F) os) (some g):=by
  refine ⟨rfl,rfl,rfl,by simp,fun k hk hne=>?_⟩
  rw [heap_grow_old _ _ (by simpa using hk)]
  have:g≠k:=fun e=>hne (by rw [e])
  simp [putRow,mapBlock,Sort.ahead,Array.getElem?_modify,this]
theorem aCz {P:Program} {ρ:Ren} {f g:FuncId} (lay:SlLaysF.n6 P ρ) (hf:ρ.f 6=f) (h1:OneCell E)
    (cf:T→T→Int) (hO:SWO (ltOf cf)) (hT:∀ x y,(ltOf cf) x y=false→(ltOf cf) y x=false→x=y) (eg:∀ args w,(callFunc g args).run P w=.ok (.enter g args) w)
    (e:TypeId) (v:Value) (l:List T) (w0:World) (hX:dZ (hp w0) e 1 v l.length (l.map E)) (hl:l.length≤10000)
    (hc:∀ x y W,w0.heap.size≤W.heap.size→(∀ b,b<w0.heap.size→v.ownBlock≠some b→W.heap[b]? = w0.heap[b]?)→Calls P g #[E x,E y] W fun e w'=>e=.returned (.int .i64 (cf x y))∧∃ q os',w'=grow (W.drewN q) os') :
    Ret P f #[v,.func (.func g) #[] #[]] w0 (G:=Unit) (fun _=>.tuple #[]) (fun _ w=>St w0 w (fun k=>v.ownBlock=some k) [] [sl e 1 v l.length ((gZ (ltOf cf) l).map E)]):=by
  subst hf
  have hlen:=oz (ltOf cf) l
  have hS:=St.own hX
  rcases hX.2 with ⟨rfl,hn⟩ | ⟨b,cap,cur,rfl,hg,q1,q2,q3,q4⟩
  · obtain rfl:l=[]:=List.eq_nil_of_length_eq_zero hn
    refine Calls.mono (AnyF.slices_SortFunc_none { lay with } none 0 _ w0) ?_
    rintro e w ⟨rfl,rfl⟩
    refine ⟨(),rfl,?_⟩
    rw [show gZ (ltOf cf) ([]:List T)=[] from by simp [gZ]]
    exact hS
  · have hb:w0.heap[b]? = some (.cells cur e (0,0)):=hg
    have hgl:=(Array.getElem?_eq_some_iff.1 hb).1
    rw [Nat.mul_one] at q3 q4
    have hH:Holds E w0 b 0 l.toArray:=zN hb q4
    have hcl:CmpLays1 P g #[] E cf b 0 l.toArray.size w0:=fun m os dk _ x y=>by
      refine hc x y _ ?_ ?_
      · unfold sortWorld
        have:=(lV (E:=E) (w:=w0) (g:=b) (n:=m) (os:=os) dk).size
        exact this
      · intro b' hb' hne
        unfold sortWorld
        exact (lV (E:=E) (w:=w0) (g:=b) (n:=m) (os:=os) dk).block b' hb' (fun h=>hne h.symm)
    have hcon:=Any.slices_SortFunc_total lay E h1 cf hO g #[] b 0 cap l.toArray w0 eg hcl hH hgl (by simp; omega) hT
    refine Calls.mono (by simpa using hcon) ?_
    rintro e' w ⟨rfl,n,os,rfl⟩
    refine ⟨(),rfl,?_⟩
    rw [show l.mergeSort (fun x y=>!ltOf cf y x)=gZ (ltOf cf) l from rfl]
    unfold sortWorld
    have hgb:=lV (E:=E) (w:=w0) (g:=b) (n:=n) (os:=os) (gZ (ltOf cf) l).toArray
    have hhp:=zk (E:=E) (n:=n) (os:=os) (gZ (ltOf cf) l).toArray hb
    generalize grow (putRow E (Sort.ahead w0 n) b 0 (gZ (ltOf cf) l).toArray) os=w at hgb hhp
    have hok:dZ (hp w) e 1 (.slice (some ⟨b,0,none⟩) l.length cap) l.length ((gZ (ltOf cf) l).map E):=by
      refine ⟨by rw [List.length_map,hlen,Nat.mul_one],.inr ⟨b,cap,_,rfl,hhp,q1,q2,by simp [putCells,q3],?_⟩⟩
      rw [Nat.mul_one,← hlen]
      exact aAL cur _ (by omega)
    exact hS.write (i:=0) (p:=sl e 1 (.slice (some ⟨b,0,none⟩) l.length cap) l.length (l.map E)) rfl hgb.os hgb.tape hgb.output hgb.size (fun b' hb' hne=>hgb.block b' hb' (fun e=>hne (by
      simp only [Option.some.injEq] at e; subst e; rfl))) hok (fun b' hb'=>⟨.inl hb',by
        have:b=b':=by simpa [sl,Value.ownBlock] using hb'
        have:=hgb.size; omega⟩)
end
theorem St.lts {w0 w:World} {X:Nat→Prop} {B M BL:List Asr} (hS:St w0 w X B M) (h:∀ w1 X1 M1,St w1 w1 X1 (M++B) M1→∀ p ∈ BL,Lt w1 X1 p):∀ p ∈ BL,p.holds (hp w)∧∀ b,p.fp b→b<w.heap.size:=fun p hp =>
  (fun h=>⟨h.1,fun b hb=>(h.2 b hb).1⟩) (h w _ [] (St.focus (M:=[]) hS) p hp)
end Go.SL

set_option maxHeartbeats 1000000
set_option maxRecDepth 8000
namespace Go.Proofs.YtipfobacinmoiaaGreat
open Go Go.SL Go.Shelf Go.RowKit Go.Maps
theorem aCP:aX Tryz.prog 26=true:=by kernel_rfl
theorem yQ:aX Tryz.prog 27=true:=by kernel_rfl
theorem aB8:aX Tryz.prog 28=true:=by kernel_rfl
theorem aDJ:aX Tryz.prog 30=true:=by kernel_rfl
theorem oZ (fW fH:Nat) (least:Int) (vP:Value) (zs:List Int) (hW:1≤fW∧fW≤100) (hH:1≤fH∧fH≤100) (hn:zs.length=fW*fH) (hls:1≤least):∀ m (lv:List Int),lv.length≤m→aEQ fW fH least vP zs lv
  | m,lv,hm,b1,b2,b3,b4,vL,vv,l,hok,hft=>by
    intro l0 γ U Fc g w1 hF hS hround; have h:=aE4 fW fH least vP vL vv zs l lv b1 b2 b3 b4 l0 w1 γ U Fc g hW hH hn hls hok hft (fun n hn'=>by
      cases m with
      | zero=>omega
      | succ m=>exact oZ fW fH least vP zs hW hH hn hls m (lv.drop (n+1)) (by rw [List.length_drop]; omega)) hF hS hround
    exact Calls.mono h (fun e w' ⟨g',he,h⟩=>⟨⟨_,he⟩,g',h⟩)
set_option maxHeartbeats 1000000 in
set_option maxRecDepth 4000 in
theorem aEI (va vb:Value) (x y:List Int) (w0:World) (hx:0<x.length) (hy:0<y.length) (ha:aQ (hp w0) 1 va x.length (ints x)) (hb:aQ (hp w0) 1 vb y.length (ints y)) :
    Ret Tryz.prog 31 #[va,vb] w0 (G:=Unit) (fun _=>iV (Det.eY (x.getD 0 0) (y.getD 0 0))) (fun _ w=>St w0 w noX [] []):=by
  refine aR (lv:=[va,vb]) Tryz.func31 rfl rfl rfl (fun a hf=>?_); replace hf:Fr a 12 [] [(0,va),(1,vb)]:=hf; have hS:St w0 w0 noX [rI va x,rI vb y] []:=((St.refl w0).bO hb).bO ha; refine W.seq ?_
  refine R1 rfl<|mv hf rfl<|fun a hf=>?_; refine nk<|W.seq<|?_
  refine W.dY (fun w=>St w0 w noX [rI va x,rI vb y] []) aV rfl (by kernel_rfl) rfl hS.drew ?_; clear hS; refine q0 hf rfl rfl fun a hf=>OQ.val (v:=ix va 0) hf rfl (fun w hS=>aA.ixV (j:=0) (m:=0) aB aD rfl rfl (hS.aL (j:=0) rfl) rfl (by omega) (Nat.mul_one _)) fun a hf=>OQ.val (v:=iV (x.getD 0 0)) hf rfl (fun w hS=>aA.ld1 aH rfl (hS.aL (j:=0) rfl) (aI (by omega))) fun a hf=>q0 hf rfl rfl fun a hf=>OQ.val (v:=ix vb 0) hf rfl (fun w hS=>aA.ixV (j:=0) (m:=0) aB aD rfl rfl (hS.aL (j:=1) rfl) rfl (by omega) (Nat.mul_one _)) fun a hf=>OQ.val (v:=iV (y.getD 0 0)) hf rfl (fun w hS=>aA.ld1 aH rfl (hS.aL (j:=1) rfl) (aI (by omega))) fun a hf=>OQ.gT (v:=iV (Det.eY (x.getD 0 0) (y.getD 0 0))) hf rfl (fun w hS=>dS.call (av:=#[iV (x.getD 0 0),iV (y.getD 0 0)]) tX rfl rfl rfl) (fun w hS=>aAs (x.getD 0 0) (y.getD 0 0) _) fun a hf=>OQ.val (v:=iV (Det.eY (x.getD 0 0) (y.getD 0 0))) hf rfl (fun w hS=>aA.assign rfl) fun a hf=>?_; refine OQ.nil ?_; intro w hS; refine aF<|W.ret<|bH hf rfl (aO.tmp rfl)<|?_; exact ⟨(),rfl,hS.sub (List.nil_sublist _) |>.noB⟩
theorem aFN:∀ args w,(callFunc 31 args).run Tryz.prog w=.ok (.enter 31 args) w:=enters_of Tryz.func31 (by kernel_rfl) rfl
open Go.Sort in
theorem uS (va:Value) (vs:List Value) (xss:List (List Int)) (w0:World) (hX:dZ (hp w0) 26 1 va vs.length vs) (hvl:vs.length≤10000) (hpos:0<vs.length) (hia:bS (hp w0) vs xss) (hne:∀ q,q<vs.length→0<(xss.getD q []).length) (hap:∀ p q,p<vs.length→q<vs.length→Det.fU (xss.getD p [])=Det.fU (xss.getD q [])→p=q) (hsep:∀ b,(inn vs xss).fp b→va.ownBlock≠some b) :
    Ret Tryz.prog 30 #[va,.func (.func 31) #[] #[]] w0 (G:=List Nat) (fun _=>.tuple #[]) (fun is w=>St w0 w (fun b=>va.ownBlock=some b) [] [sl 26 1 va is.length (jA vs is)]∧is.Perm (List.range vs.length)∧is.Pairwise (fun p q=>Det.fU (xss.getD p [])≤Det.fU (xss.getD q []))):=by
  let T:={i:Nat // i<vs.length}
  haveI:Inhabited T:=⟨⟨0,hpos⟩⟩
  let E:T→Value:=fun i=>vs.getD i.1 undef
  let cf:T→T→Int:=fun i j=>Det.eY (Det.fU (xss.getD i.1 [])) (Det.fU (xss.getD j.1 []))
  have hlt:∀ i j,ltOf cf i j=decide (Det.fU (xss.getD i.1 [])<Det.fU (xss.getD j.1 [])):=fun i j=>by
    unfold ltOf; exact decide_eq_decide.2 Det.aBS
  have hO:SWO (ltOf cf):=⟨fun x=>by rw [hlt]; simp,fun x y z h1 h2=>by rw [hlt,decide_eq_true_eq] at *; omega,fun x y z h1 h2=>by rw [hlt,decide_eq_false_iff_not] at *; omega⟩
  have hT:∀ x y,ltOf cf x y=false→ltOf cf y x=false→x=y:=fun x y h1 h2=>by
    rw [hlt,decide_eq_false_iff_not] at h1 h2
    exact Subtype.ext (hap _ _ x.2 y.2 (by omega))
  let l:List T:=(List.range vs.length).pmap (fun i hi=>⟨i,hi⟩) (fun i hi=>List.mem_range.1 hi)
  have hl1:l.map (·.1)=List.range vs.length:=by simp [l,List.map_pmap]
  have hll:l.length=vs.length:=by simp [l]
  have hlE:l.map E=vs:=by
    have:l.map E=(l.map (·.1)).map fun i=>vs.getD i undef:=by rw [List.map_map]; rfl
    rw [this,hl1,ku]
  have h1:OneCell E:=fun i=>by
    obtain ⟨_,_,A,c,he,_⟩:=hia.2 i.1 i.2
    show (vs.getD i.1 undef).oneCell'=true
    rw [he]; rfl
  have hc:=aCz (E:=E) Tryz.sortS rfl h1 cf hO hT aFN 26 va l w0 (by rw [hll,hlE]; exact hX) (by omega) (fun x y W hs hb=>by
    have hin:bS (hp W) vs xss:=(inn vs xss).loc (hp w0) (hp W) (fun b hfb=>hb b (by obtain ⟨i,hi,h0,hbb⟩:=hfb; exact (hia.2 i hi).lt h0 hbb) (hsep b hfb)) hia
    refine Calls.mono (rz (aEI _ _ (xss.getD x.1 []) (xss.getD y.1 []) W (hne _ x.2) (hne _ y.2) (hin.get x.2) (hin.get y.2)) (fun g w' h=>⟨[],h⟩)) ?_
    rintro e w ⟨_,rfl,_,h⟩
    exact ⟨rfl,h⟩)
  refine Calls.mono hc ?_
  rintro e w ⟨_,rfl,hS⟩
  refine ⟨(gZ (ltOf cf) l).map (·.1),rfl,?_,?_,?_⟩
  · have e1:jA vs ((gZ (ltOf cf) l).map (·.1))=(gZ (ltOf cf) l).map E:=by unfold jA; rw [List.map_map]; rfl
    rw [e1,List.length_map,oz]
    exact hS
  · rw [← hl1]; exact (List.mergeSort_perm l _).map _
  · rw [List.pairwise_map]
    have hp:=List.pairwise_mergeSort (le:=fun x y=>!ltOf cf y x) (fun a b c h1 h2=>by
      rw [Bool.not_eq_true'] at *; exact hO.ntrans _ _ _ h2 h1) (fun a b=>by
      rw [hlt,hlt]; simp only [Bool.or_eq_true,Bool.not_eq_true',decide_eq_false_iff_not]; omega) l
    refine hp.imp fun {a b} h=>?_
    rw [Bool.not_eq_true',hlt,decide_eq_false_iff_not] at h
    omega
set_option maxHeartbeats 1000000 in
set_option maxRecDepth 4000 in
theorem aAY (fW fH:Nat) (least:Int) (vP vL vv:Value) (zs l lv:List Int) (w0:World) [Decidable (Det.conn fW fH l)] [Decidable (Det.rising lv)] (hfo:Det.aM (fW:Int) (fH:Int) zs) (hW:1≤fW∧fW≤100) (hH:1≤fH∧fH≤100) (hn:zs.length=fW*fH) (hP:aQ (hp w0) 1 vP zs.length (ints zs)) (hL:aQ (hp w0) 1 vL l.length (ints l)) (hv:aQ (hp w0) 1 vv lv.length (ints lv)) (hft:vfit vv) :
    Ret Tryz.prog 9 #[(fG fW fH vP),vL,vv,iV least] w0 (G:=Value × List Value) (fun g=>.tuple #[g.1,iV (Det.iK (fW:Int) (fH:Int) least zs l lv)]) (fun g w=>St w0 w noX [] [sl 26 1 g.1 g.2.length g.2,inn g.2 (Det.kR (fW:Int) (fH:Int) least zs l lv)]):=by
  refine aR (lv:=[(fG fW fH vP),vL,vv,iV least]) Tryz.func9 rfl rfl rfl (fun a hf=>?_); replace hf:Fr a 45 [] [(0,(fG fW fH vP)),(1,vL),(2,vv),(3,iV least)]:=hf; have hS:St w0 w0 noX [rI vP zs,rI vL l,rI vv lv] []:=(((St.refl w0).bO hv).bO hL).bO hP; have hN:fW*fH≤10000:=Nat.mul_le_mul hW.2 hH.2; have hlen:=hL.2.1; unfold maxLen at hlen; have hlev:=hv.2.1; unfold maxLen at hlev; refine W.seq ?_
  refine R3 rfl<|O.box (cs:=#[iV fW,iV fH,vP]) hf hS rfl rfl rfl rfl<|?_; intro b_f1 w a hbb_f1 hS hf; refine mv hf rfl fun a hf=>mv hf rfl fun a hf=>?_; refine nk<|W.seq<|W.seq<|?_
  refine R3 rfl<|ov hf rfl (aA.bf (cs':=#[iV fW,iV fH,vP]) bK aj rfl (hS.p 0 rfl) (bl rfl) rfl)<|fun a hf=>?_; refine oc hf rfl oP (p9 (fW:Int) (fH:Int) vP zs _ hfo (hS.aL (j:=0) rfl)) ?_; clear hf a; rintro _ w2 hS1 a hf; replace hS:=hS.cl hS1; refine mv hf rfl fun a hf=>?_; refine nk<|W.seq<|?_
  refine R2 rfl<|mv hf rfl<|fun a hf=>ov hf rfl (aA.toB (c:=false) (aA.neq rfl rfl) (by decide)) fun a hf=>?_; refine nk<|W.jI hf rfl<|W.skip<|aF<|W.seq<|W.seq<|?_
  refine R3 rfl<|mv hf rfl<|fun a hf=>ov hf rfl (aA.bP (e:=2) (by simpa using aN) rfl (hS.aL (j:=2) rfl)) fun a hf=>ov (v:=.bool (decide ((lv.length:Int)>(20:Int)))) hf rfl (aA.gtr rfl rfl) fun a hf=>?_; refine nk ?_; refine W.bJ hf rfl (fun h20=>?_) (fun h20=>?_)
  · refine W.seq ?_
    refine R2 rfl<|mv hf rfl<|fun a hf=>mv hf rfl fun a hf=>?_; refine nk<|W.ret<|aK<|eG hf rfl (aO.tmp rfl) (aO.tmp rfl)<|?_; have he:=Det.aC3 (least:=least) (px:=l) hfo (show 20<lv.length by omega); refine ⟨(.slice none 0 0,[]),by rw [he.1],?_⟩; rw [he.2]; exact St.nE (hS.sub (List.nil_sublist _) |>.noB) 26
  · refine W.skip ?_
    refine aF<|W.seq<|?_
    refine R4 rfl<|ov hf rfl (aA.bf (cs':=#[iV fW,iV fH,vP]) bK aj rfl (hS.p 0 rfl) (bl rfl) rfl)<|fun a hf=>ov hf rfl (aA.kM (cs':=#[iV fW,iV fH,vP]) kQ jQ rfl rfl) fun a hf=>?_; refine O.alloc (cs:=#[iV 0,iV 0,.slice none 0 0]) hf hS rfl rfl jQ rfl ?_; intro b_m4 w a hbb_m4 hS hf; have hcl5:=aQ.cells (hS.aL (j:=0) rfl); refine ost 0 #[iV fW,iV fH,vP] hf hS rfl rfl rfl dF rfl (bM rfl (bM rfl (bM hcl5.2 rfl))) rfl (bl rfl) rfl ?_; intro w hS; refine nk<|W.seq<|W.seq<|?_
    refine W.aY (l:=[0,1,2,3,4,5,6,7,8,9,10,11,12]) rfl<|ov hf rfl (aA.bf (cs':=#[iV fW,iV fH,vP]) dh dF rfl (hS.p 0 rfl) (bl rfl) rfl)<|fun a hf=>?_; refine mv hf rfl fun a hf=>?_; refine oc hf rfl aCP (uX fW fH vP vL zs l _ hW hH hn (hS.aL (j:=0) rfl) (hS.aL (j:=1) rfl)) ?_; clear hf a; rintro _ w6 hS1 a hf; replace hS:=hS.cl hS1; refine ov (v:=.bool (!(decide (Det.conn fW fH l)))) hf rfl (aA.not rfl) fun a hf=>mv hf rfl fun a hf=>?_
    refine O.dV (l₁:=[5,6,7,8]) (l₂:=_) (fun a w=>Fr a 45 [] [(1,vL),(2,vv),(3,iV least),(8,.slice none 0 0),(9,iV 0),(11,(pp b_m4)),(31,.bool ((!(decide (Det.conn fW fH l)))||(!(decide (Det.rising lv)))))]∧St w0 w noX [rI vP zs,rI vL l,rI vv lv] [pt b_m4 (.cells #[iV fW,iV fH,vP] 61 (0,0)),pt b_f1 (.cells #[iV fW,iV fH,vP] 24 (0,0))]) rfl ?_ ?_
    · rcases Bool.eq_false_or_eq_true (!(decide (Det.conn fW fH l))) with hb7 | hb7
      · have hb7p:=hb7
        try simp only [bsm] at hb7p
        refine sk hf rfl hb7 fun a hf=>sk hf rfl hb7 fun a hf=>sk hf rfl hb7 fun a hf=>?_; refine ov (v:=.bool ((!(decide (Det.conn fW fH l)))||(!(decide (Det.rising lv))))) hf rfl (aA.pick rfl rfl rfl (by rw [hb7]; rfl)) fun a hf=>?_; exact O.nil ⟨rfl,hf.q rfl,hS⟩
      · have hb7p:=hb7
        try simp only [bsm] at hb7p
        refine og (v:=vv) hf rfl hb7 (aA.move rfl) fun a hf=>?_; refine O.gM hf rfl rfl rfl hb7 rfl rfl (dS.call (av:=#[vv]) yQ rfl rfl rfl) (lJ vv lv _ (hS.aL (j:=2) rfl)) ?_; clear hf a; rintro _ w8 hS1 a hf; replace hS:=hS.cl hS1; refine og (v:=.bool (!(decide (Det.rising lv)))) hf rfl hb7 (aA.not rfl) fun a hf=>?_; refine ov (v:=.bool ((!(decide (Det.conn fW fH l)))||(!(decide (Det.rising lv))))) hf rfl (aA.pick rfl rfl rfl (by rw [hb7]; rfl)) fun a hf=>?_; exact O.nil ⟨rfl,hf.q rfl,hS⟩
    clear hf hS a; rintro a w ⟨hf,hS⟩; refine mv hf rfl fun a hf=>?_
    refine O.dV (l₁:=[10,11,12]) (l₂:=_) (fun a w=>Fr a 45 [] [(1,vL),(2,vv),(3,iV least),(8,.slice none 0 0),(9,iV 0),(11,(pp b_m4)),(35,.bool (((!(decide (Det.conn fW fH l)))||(!(decide (Det.rising lv))))||(decide (least<(1:Int)))))]∧St w0 w noX [rI vP zs,rI vL l,rI vv lv] [pt b_m4 (.cells #[iV fW,iV fH,vP] 61 (0,0)),pt b_f1 (.cells #[iV fW,iV fH,vP] 24 (0,0))]) rfl ?_ ?_
    · rcases Bool.eq_false_or_eq_true ((!(decide (Det.conn fW fH l)))||(!(decide (Det.rising lv)))) with hb9 | hb9
      · have hb9p:=hb9
        try simp only [bsm] at hb9p
        refine sk hf rfl hb9 fun a hf=>sk hf rfl hb9 fun a hf=>?_; refine ov (v:=.bool (((!(decide (Det.conn fW fH l)))||(!(decide (Det.rising lv))))||(decide (least<(1:Int))))) hf rfl (aA.pick rfl rfl rfl (by rw [hb9]; rfl)) fun a hf=>?_; exact O.nil ⟨rfl,hf.q rfl,hS⟩
      · have hb9p:=hb9
        try simp only [bsm] at hb9p
        refine og (v:=iV least) hf rfl hb9 (aA.move rfl) fun a hf=>og (v:=.bool (decide (least<(1:Int)))) hf rfl hb9 (aA.lss rfl rfl) fun a hf=>?_; refine ov (v:=.bool (((!(decide (Det.conn fW fH l)))||(!(decide (Det.rising lv))))||(decide (least<(1:Int))))) hf rfl (aA.pick rfl rfl rfl (by rw [hb9]; rfl)) fun a hf=>?_; exact O.nil ⟨rfl,hf.q rfl,hS⟩
    clear hf hS a; rintro a w ⟨hf,hS⟩; refine nk ?_; refine W.if_ hf rfl (fun hbad=>?_) (fun hbad=>?_)
    · have hbadb:=hbad
      try simp only [bsm] at hbad
      refine W.seq ?_
      refine R2 rfl<|mv hf rfl<|fun a hf=>mv hf rfl fun a hf=>?_; refine nk<|W.ret<|aK<|eG hf rfl (aO.tmp rfl) (aO.tmp rfl)<|?_; have he:=Det.aCO (least:=least) hfo (show ¬ 20<lv.length by omega) (fun h3=>by obtain ⟨h4,h5,h6⟩:=h3; rw [Int.toNat_natCast,Int.toNat_natCast] at h4; rcases hbad with (hb1 | hb1) | hb1 <;> first | exact hb1 h4 | exact hb1 h5 | omega); refine ⟨(.slice none 0 0,[]),by rw [he.1],?_⟩; rw [he.2]; exact St.nE (hS.sub (List.nil_sublist _) |>.noB) 26
    · have hbadb:=hbad
      try simp only [bsm] at hbad
      have hgood:Det.conn fW fH l∧Det.rising lv∧1≤least:=by
        simp only [Bool.or_eq_false_iff,Bool.not_eq_false',decide_eq_true_eq,decide_eq_false_iff_not] at hbadb; exact ⟨hbadb.1.1,hbadb.1.2,by omega⟩
      have hset:=Det.wM hgood.1; refine W.skip<|aF<|W.seq<|?_
      refine R7 rfl<|ov hf rfl (aA.bf (cs':=#[iV fW,iV fH,vP]) dh dF rfl (hS.p 0 rfl) (bl rfl) rfl)<|fun a hf=>mv hf rfl fun a hf=>mv hf rfl fun a hf=>mv hf rfl fun a hf=>?_; refine oc hf rfl tH (aBO fW fH least vP vL vv zs l lv _ (hS.aL (j:=0) rfl) (hS.aL (j:=1) rfl) (hS.aL (j:=2) rfl)) ?_; clear hf a; rintro gb w11 hS1 a hf; replace hS:=hS.cl hS1; have hdl:=Det.o5 (P:=zs) (levels:=lv) hgood.2.2 hset; have hBB:=hS.lts (BL:=o6 fW fH least vP vL vv zs l lv gb.1 gb.2.1 gb.2.2.1 gb.2.2.2) (by
          intro w1 X1 M1 hS p hp; simp only [o6,List.mem_cons,List.not_mem_nil,or_false] at hp
          rcases hp with rfl | rfl | rfl | rfl | rfl | rfl | rfl
          · exact Lt.at hS (i:=0) rfl
          · exact Lt.at hS (i:=1) rfl
          · exact Lt.at hS (i:=2) rfl
          · exact Lt.at hS (i:=3) rfl
          · exact Lt.at hS (i:=6) rfl
          · exact Lt.at hS (i:=7) rfl
          · exact Lt.at hS (i:=8) rfl)
      refine oc hf rfl aB8 (aEz gb.1 gb.2.1 gb.2.2.1 gb.2.2.2 (Det.bA zs fW fH least lv l) _ _ (oZ fW fH least vP zs hW hH hn hgood.2.2 lv.length lv (Nat.le_refl _) gb.1 gb.2.1 gb.2.2.1 gb.2.2.2 vL vv l hset hft) hBB (by omega)) ?_; clear hf a; rintro ⟨vo,sts⟩ w12 hS1 a hf; try dsimp only at hS1 hf; replace hS:=hS.cl hS1; refine mv hf rfl fun a hf=>?_; refine nk<|W.seq<|?_
      refine R2 rfl<|mv hf rfl<|fun a hf=>?_; have hstl:=(hS.eF (j:=1) rfl).1
      try dsimp only at hstl
      have hapt:=Det.mI (P:=zs) hgood.2.2 lv hset; refine oc hf rfl aDJ (uS vo sts (Det.bA zs fW fH least lv l) _ (hS.iJ (j:=0) rfl) (by omega) (by have:=Det.xC (P:=zs) (levels:=lv) hgood.2.2 hset; omega) (hS.eF (j:=1) rfl) (fun q hq=>Det.aD0 hapt.ne (by omega)) (fun p q hp hq=>Det.za hapt p q (by omega) (by omega)) (fun b hb e=>hS.sep.disj (i:=1) (j:=0) rfl rfl (by decide) b hb e)) ?_; clear hf a; rintro is w13 ⟨hS1,hpm,hsr⟩ a hf; replace hS:=(hS.dA hS1 (i:=0) rfl (fun _ h=>h)).eqM (N:=[sl 26 1 vo is.length (jA sts is),inn sts (Det.bA zs fW fH least lv l),pt gb.1 (.cells #[vv] 22 (0,0)),pt gb.2.1 (.cells #[vL] 26 (0,0)),pt gb.2.2.1 (.cells #[iV fW,iV fH,vP] 61 (0,0)),pt gb.2.2.2 (.cells #[iV least] 3 (0,0)),pt b_m4 (.cells #[iV fW,iV fH,vP] 61 (0,0)),pt b_f1 (.cells #[iV fW,iV fH,vP] 24 (0,0))]) rfl; have hfin:jS (Det.bA zs fW fH least lv l) is=Det.kJ (Det.bA zs fW fH least lv l):=Det.pY hapt (wo (by rw [← hstl]; exact hpm)) (by unfold jS; rw [List.pairwise_map]; exact hsr); replace hS:=(hS.xZ (is:=is) (j:=1) rfl (fun i hi=>List.mem_range.1 (hpm.mem_iff.1 hi))).eqM (N:=[sl 26 1 vo is.length (jA sts is),inn (jA sts is) (jS (Det.bA zs fW fH least lv l) is),pt gb.1 (.cells #[vv] 22 (0,0)),pt gb.2.1 (.cells #[vL] 26 (0,0)),pt gb.2.2.1 (.cells #[iV fW,iV fH,vP] 61 (0,0)),pt gb.2.2.2 (.cells #[iV least] 3 (0,0)),pt b_m4 (.cells #[iV fW,iV fH,vP] 61 (0,0)),pt b_f1 (.cells #[iV fW,iV fH,vP] 24 (0,0))]) rfl; refine nk<|W.seq<|?_
      refine R3 rfl<|mv hf rfl<|fun a hf=>mv hf rfl fun a hf=>mv hf rfl fun a hf=>?_; refine nk<|W.ret<|eG hf rfl (aO.tmp rfl) (aO.tmp rfl)<|?_; replace hS:=hS.fr 1; replace hS:=hS.fr 1; have he:=Det.yN (least:=least) (zs:=zs) (px:=l) (lv:=lv) hfo (show ¬ 20<lv.length by omega) ⟨by rw [Int.toNat_natCast,Int.toNat_natCast]; exact hgood.1,hgood.2.1,hgood.2.2⟩; rw [Int.toNat_natCast,Int.toNat_natCast] at he; refine ⟨(vo,jA sts is),by rw [he.1],?_⟩; rw [he.2,← hfin]; exact ((hS.sub (.cons_cons _ (.cons_cons _ (.cons _ (.cons _ (.cons _ (.cons _ (.cons _ (.cons _ .slnil))))))))).noB).eqM (by rw [lG])
end Go.Proofs.YtipfobacinmoiaaGreat

namespace Go.SL
open Go Go.Proofs Go.Shelf Go.RowKit Go.Sort Go.Lib
section
variable {T:Type} [Inhabited T] {E:T→List Value} {k:Nat}
theorem aB7 {P:Program} {ρ:Ren} {f g:FuncId} (lay:SlLaysF0.n6 P ρ) (hf:ρ.f 6=f) (aE:∀ w,(isAgg (ρ.t 24)).run P w=.ok true w) (zE:∀ w,(Go.sizeOf (ρ.t 24)).run P w=.ok k w) (hk:∀ x,(E x).length=k) (h1:∀ x,∀ v ∈ E x,v.oneCell'=true)
    (cf:T→T→Int) (hO:SWO (ltOf cf)) (hT:∀ x y,(ltOf cf) x y=false→(ltOf cf) y x=false→x=y) (eg:∀ args w,(callFunc g args).run P w=.ok (.enter g args) w)
    (e:TypeId) (v:Value) (l:List T) (w0:World) (hX:dZ (hp w0) e k v l.length (encs E l)) (hl:l.length≤10000)
    (hc:∀ x y W,w0.heap.size≤W.heap.size→(∀ b,b<w0.heap.size→v.ownBlock≠some b→W.heap[b]? = w0.heap[b]?)→Calls P g #[.agg (E x).toArray,.agg (E y).toArray] W fun e w'=>e=.returned (.int .i64 (cf x y))∧∃ q os',w'=grow (W.drewN q) os') :
    Ret P f #[v,.func (.func g) #[] #[]] w0 (G:=Unit) (fun _=>.tuple #[]) (fun _ w=>St w0 w (fun k=>v.ownBlock=some k) [] [slE e k E v (gZ (ltOf cf) l)]):=by
  subst hf
  have hlen:=oz (ltOf cf) l
  have hS:=St.own hX
  unfold slE
  rcases hX.2 with ⟨rfl,hn⟩ | ⟨b,cap,cur,rfl,hg,q1,q2,q3,q4⟩
  · obtain rfl:l=[]:=List.eq_nil_of_length_eq_zero hn
    refine Calls.mono (AnyF.slices_SortFunc_none lay none 0 _ w0) ?_
    rintro e w ⟨rfl,rfl⟩
    refine ⟨(),rfl,?_⟩
    rw [show gZ (ltOf cf) ([]:List T)=[] from by simp [gZ]]
    exact hS
  · have hb:w0.heap[b]? = some (.cells cur e (0,0)):=hg
    have hgl:=(Array.getElem?_eq_some_iff.1 hb).1
    have hfl:=zF hk l
    have hsz:(flatK E k l.toArray).size=l.length*k:=by simp
    have hH:HoldsK E k w0 b 0 l.toArray:=wX hb (by rw [hsz,hfl]; exact q4)
    have hcl:CmpLays P g #[] E k cf b 0 l.toArray.size w0:=fun m os dk _ x y=>by
      refine hc x y _ ?_ ?_
      · unfold sortWorldK putRowK
        have:=(nJ (w:=w0) (g:=b) (n:=m) (os:=os) (flatK E k dk)).size
        exact this
      · intro b' hb' hne
        unfold sortWorldK putRowK
        exact (nJ (w:=w0) (g:=b) (n:=m) (os:=os) (flatK E k dk)).block b' hb' (fun h=>hne h.symm)
    have hcon:=AnyQ.slices_SortFunc_total lay k aE zE E hk h1 cf hO g #[] b 0 cap l.toArray w0 eg hcl hH hgl (by simp; omega) hT
    refine Calls.mono (by simpa using hcon) ?_
    rintro e' w ⟨rfl,n,os,rfl⟩
    refine ⟨(),rfl,?_⟩
    rw [show l.mergeSort (fun x y=>!ltOf cf y x)=gZ (ltOf cf) l from rfl]
    unfold sortWorldK putRowK
    have hgb:=nJ (w:=w0) (g:=b) (n:=n) (os:=os) (flatK E k (gZ (ltOf cf) l).toArray)
    have hfl':=zF hk (gZ (ltOf cf) l)
    have hsz':(flatK E k (gZ (ltOf cf) l).toArray).size=l.length*k:=by simp [hlen]
    have hhp:=heap_put (n:=n) (os:=os) (flatK E k (gZ (ltOf cf) l).toArray) hb
    generalize grow (putRow id (Sort.ahead w0 n) b 0 (flatK E k (gZ (ltOf cf) l).toArray)) os=w at hgb hhp
    have hok:dZ (hp w) e k (.slice (some ⟨b,0,none⟩) l.length cap) (gZ (ltOf cf) l).length (encs E (gZ (ltOf cf) l)):=by
      rw [hlen]
      refine ⟨by rw [kL hk,hlen],.inr ⟨b,cap,_,rfl,hhp,q1,q2,by simp [putCells,q3],?_⟩⟩
      have hle:(flatK E k (gZ (ltOf cf) l).toArray).size≤cur.size:=by rw [hsz',q3]; exact Nat.mul_le_mul_right k q1
      rw [← hsz',aA1 cur _ hle,hfl']
    exact hS.write (i:=0) (p:=sl e k (.slice (some ⟨b,0,none⟩) l.length cap) l.length (encs E l)) rfl hgb.os hgb.tape hgb.output hgb.size (fun b' hb' hne=>hgb.block b' hb' (fun e=>hne (by
      simp only [Option.some.injEq] at e; subst e; rfl))) hok (fun b' hb'=>⟨.inl hb',by
        have:b=b':=by simpa [sl,Value.ownBlock] using hb'
        have:=hgb.size; omega⟩)
end
abbrev BV:=Value × Det.Blob
def eB (p:BV):List Value:=[p.1,.int .i64 p.2.peak,.int .i64 p.2.sum]
theorem dL (p:BV):(eB p).length=3:=rfl
def fC (L:List BV) (is:List Nat):List BV:=is.map fun i=>L.getD i default
section
variable {L:List BV} {is:List Nat} {w0 w:World} {X:Nat→Prop} {B M:List Asr}
theorem zw:(fC L is).length=is.length:=by unfold fC; simp
theorem zO (hp:∀ i ∈ is,i<L.length):jA (L.map (·.1)) is=(fC L is).map (·.1):=by
  unfold jA fC
  rw [List.map_map]
  refine List.map_congr_left fun i hi=>?_
  have:=hp i hi
  simp [List.getD_eq_getElem?_getD,List.getElem?_eq_getElem this]
theorem aBG (hp:∀ i ∈ is,i<L.length):jS (L.map (·.2.px)) is=(fC L is).map (·.2.px):=by
  unfold jS fC
  rw [List.map_map]
  refine List.map_congr_left fun i hi=>?_
  have:=hp i hi
  simp [List.getD_eq_getElem?_getD,List.getElem?_eq_getElem this]
theorem xS (hp:is.Perm (List.range L.length)):(fC L is).Perm L:=by
  have h1:(fC L is).Perm ((List.range L.length).map fun i=>L.getD i default):=hp.map _
  rwa [ku] at h1
end
end Go.SL

namespace Det
noncomputable def found (P:List Int) (W H:Nat) (least:Int) (lv:List Int) (ps:List (List Int)) (k:Nat):List (List Int):=(ps.take k).flatMap (bA P W H least lv)
noncomputable def eH (fW fH thr least:Int) (zs:List Int) (bs:List Bool) (lv:List Int):Int:=open Classical in
  if aM fW fH zs then (if 20<lv.length then 4 else if bg fW fH zs bs thr least=0 then (if rising lv then (if 500<(eX zs fW.toNat fH.toNat least lv (bright zs bs thr zs.length)).length then 4 else 0) else 2) else bg fW fH zs bs thr least) else 8
noncomputable def jB (fW fH thr least:Int) (zs:List Int) (bs:List Bool) (lv:List Int):List Blob :=
  if eH fW fH thr least zs bs lv=0 then dG zs (eX zs fW.toNat fH.toNat least lv (bright zs bs thr zs.length)) else []
section
variable {fW fH thr least:Int} {zs lv:List Int} {bs:List Bool}
theorem jW (h:eH fW fH thr least zs bs lv≠0):jB fW fH thr least zs bs lv=[]:=by unfold jB; rw [if_neg h]
theorem aDr (h:¬ aM fW fH zs):eH fW fH thr least zs bs lv=8∧jB fW fH thr least zs bs lv=[]:=by
  have e:eH fW fH thr least zs bs lv=8:=by unfold eH; rw [if_neg h]
  exact ⟨e,jW (by rw [e]; decide)⟩
theorem aDo (h:aM fW fH zs) (h2:20<lv.length):eH fW fH thr least zs bs lv=4∧jB fW fH thr least zs bs lv=[]:=by
  have e:eH fW fH thr least zs bs lv=4:=by unfold eH; rw [if_pos h,if_pos h2]
  exact ⟨e,jW (by rw [e]; decide)⟩
theorem wE (h:aM fW fH zs) (h2:¬ 20<lv.length) (h3:bg fW fH zs bs thr least≠0):eH fW fH thr least zs bs lv=bg fW fH zs bs thr least∧jB fW fH thr least zs bs lv=[]:=by
  have e:eH fW fH thr least zs bs lv=bg fW fH zs bs thr least:=by unfold eH; rw [if_pos h,if_neg h2,if_neg h3]
  exact ⟨e,jW (by rw [e]; exact h3)⟩
theorem xA (h:aM fW fH zs) (h2:¬ 20<lv.length) (h3:bg fW fH zs bs thr least=0) (h4:¬ rising lv):eH fW fH thr least zs bs lv=2∧jB fW fH thr least zs bs lv=[]:=by
  have e:eH fW fH thr least zs bs lv=2:=by unfold eH; rw [if_pos h,if_neg h2,if_pos h3,if_neg h4]
  exact ⟨e,jW (by rw [e]; decide)⟩
theorem wG (h:aM fW fH zs) (h2:¬ 20<lv.length) (h3:bg fW fH zs bs thr least=0) (h4:rising lv) (h5:500<(eX zs fW.toNat fH.toNat least lv (bright zs bs thr zs.length)).length):eH fW fH thr least zs bs lv=4∧jB fW fH thr least zs bs lv=[]:=by
  have e:eH fW fH thr least zs bs lv=4:=by unfold eH; rw [if_pos h,if_neg h2,if_pos h3,if_pos h4,if_pos h5]
  exact ⟨e,jW (by rw [e]; decide)⟩
theorem tN (h:aM fW fH zs) (h2:¬ 20<lv.length) (h3:bg fW fH zs bs thr least=0) (h4:rising lv) (h5:¬ 500<(eX zs fW.toNat fH.toNat least lv (bright zs bs thr zs.length)).length):eH fW fH thr least zs bs lv=0∧jB fW fH thr least zs bs lv=dG zs (eX zs fW.toNat fH.toNat least lv (bright zs bs thr zs.length)):=by
  have e:eH fW fH thr least zs bs lv=0:=by unfold eH; rw [if_pos h,if_neg h2,if_pos h3,if_pos h4,if_neg h5]
  exact ⟨e,by unfold jB; rw [if_pos e]⟩
end
section
variable {P lv:List Int} {W H:Nat} {least:Int} {bs:List Bool} {ps:List (List Int)} {k:Nat}
theorem aDF:found P W H least lv ps 0=[]:=by unfold found; simp
theorem aCV (h:k<ps.length):found P W H least lv ps (k+1)=found P W H least lv ps k++bA P W H least lv (ps.getD k []):=by unfold found; exact ru h
theorem mq (hn:bs.length=W*H) (he:ps=(bR W H least bs (W*H)).2):(∀ s ∈ ps,SetOK W H s)∧ps.Pairwise (fun a b=>∀ t ∈ a,t ∉ b):=by
  have hpo:=gq (W:=W) (H:=H) (least:=least) (bs:=bs) hn (W*H)
  refine ⟨fun s hs=>?_,by rw [he]; exact hpo.apart⟩
  rw [he] at hs
  obtain ⟨f,_,h3,h4,_⟩:=(hpo.mem s).1 hs
  rw [h4]
  exact lX hn h3.1
theorem z8 (hleast:1≤least) (hn:bs.length=W*H) (he:ps=(bR W H least bs (W*H)).2):(found P W H least lv ps k).length≤W*H :=
  aAm hleast (mq hn he).1 (mq hn he).2
theorem zJ (he:ps=(bR W H least bs (W*H)).2) (hk:ps.length≤k):found P W H least lv ps k=eX P W H least lv bs:=by
  unfold found eX; rw [List.take_of_length_le hk,he]
end
theorem wz {P l:List Int} {n k:Nat} (hP:∀ j,j<P.length→-4294967296≤P.getD j 0∧P.getD j 0≤4294967296) (hr:∀ x ∈ l,0≤x∧x<(P.length:Int)) (hl:l.length≤10000):-42949672960000≤fP P (l.take k)∧fP P (l.take k)≤42949672960000:=by
  have h:=aBm (P:=P) (B:=4294967296) (l:=l.take k) fun i hi=>by
    have h1:=hr i (List.mem_of_mem_take hi)
    exact hP i.toNat (by omega)
  have h2:(l.take k).length≤10000:=by rw [List.length_take]; omega
  omega
end Det

namespace Go.SL
open Go
section
variable {w0 w:World} {X:Nat→Prop} {B M:List Asr} {i:Nat}
theorem aCZ {T:Type} {e sz:Nat} {v:Value} {enc:T→List Value} {l:List T} {x:T}:sl e sz v (l.length+1) (encs enc l++enc x)=sl e sz v (l++[x]).length (encs enc (l++[x])):=by simp [encs]
theorem St.reE {p q:Asr} {M':List Asr} (hS:St w0 w X B M) (hi:M[i]? = some p) (e:p=q) (hM:M.set i q=M'):St w0 w X B M':=by
  subst e hM
  have:M.set i p=M:=List.ext_getElem? fun k=>by
    rw [List.getElem?_set]
    split
    · rename_i h; subst h
      split
      · exact hi.symm
      · rename_i h2; rw [List.getElem?_eq_none (by omega)]
    · rfl
  rw [this]; exact hS
end
section
variable {T:Type} [Inhabited T] {P:Program} {w:World} {n:Nat} {ds:List Deferred} {L:List (Nat × Value)} {ty t:TypeId} {x:Operand} {v u:Value} {enc:T→List Value} {l:List T} {sz q j o:Nat}
theorem aA.gQ (ha:iH P t=some false) (henc:∀ x,(enc x).length=sz) (hx:ev L x=some (ix v (j*sz+o))) (hr:aQ (hp w) sz v l.length (encs enc l)) (hj:j<l.length) (ho:Nat.blt o sz=true) (hv:(enc (l.getD j default))[o]? = some u):aA P n ds L (.load t x) ty w u w:=by
  have h0:l[j]? = some (l.getD j default):=by simp [List.getD_eq_getElem?_getD,List.getElem?_eq_getElem hj]
  exact aA.ld1 ha hx hr (by rw [qQ henc h0 (by simpa using ho)]; exact hv)
end
theorem zS {L:List BV} {v:Value} {b:Det.Blob}:inn (L.map (·.1)++[v]) (L.map (·.2.px)++[b.px])=inn ((L++[(v,b)]).map (·.1)) ((L++[(v,b)]).map (·.2.px)):=by simp
theorem iD {α β:Type} [Inhabited α] {f:α→β} {l:List α} {i:Nat} {d:β} (h:i<l.length):(l.map f).getD i d=f (l.getD i default):=by
  simp [List.getD_eq_getElem?_getD,List.getElem?_eq_getElem h]
theorem aAk {h:Hp} {L:List BV} (hi:bS h (L.map (·.1)) (L.map (·.2.px))) {i:Nat} (hl:i<L.length):(L.getD i default).1.oneCell'=true:=by
  have h1:=(hi.2 i (by rw [List.length_map]; exact hl)).2
  rw [iD hl] at h1
  obtain ⟨_,A,c,he,_⟩:=h1
  rw [iD hl] at he
  rw [he]; rfl
theorem aBt {L:List BV} {i:Nat} (h:L.length=0):(L.getD i default).1.oneCell'=true:=by
  rw [List.eq_nil_of_length_eq_zero h]; rfl
theorem St.pushB {w0 w:World} {X:Nat→Prop} {B:List Asr} (h:St w0 w X B []):St w0 w X B [SL.sl 57 3 (.slice none 0 0) ([]:List BV).length (encs eB []),inn (([]:List BV).map (·.1)) (([]:List BV).map (·.2.px))]:=(h.qA).jN 57 3
theorem zX {L:List BV} {P:List Int} {S:List (List Int)} (ha:Det.Apart S) (h:L.map (·.2)=S.map (Det.dK P)):∀ p q,p<L.length→q<L.length→(L.getD p default).2.peak=(L.getD q default).2.peak→p=q:=by
  have h1:=ha.peaks (P:=P)
  rw [← h,List.pairwise_map] at h1
  have h1:=List.pairwise_iff_getElem.1 h1
  intro p q hp hq e
  have e:L[p].2.peak=L[q].2.peak:=by simpa [List.getD_eq_getElem?_getD,List.getElem?_eq_getElem hp,List.getElem?_eq_getElem hq] using e
  rcases Nat.lt_trichotomy p q with h2 | h2 | h2
  · exact absurd e (h1 p q hp hq h2)
  · exact h2
  · exact absurd e.symm (h1 q p hq hp h2)
end Go.SL
namespace Det
noncomputable def iw (P:List Int) (W H:Nat) (least:Int) (lv:List Int) (ps:List (List Int)) (k:Nat):List Blob:=(found P W H least lv ps k).map (dK P)
section
variable {P lv:List Int} {W H:Nat} {least:Int} {bs:List Bool} {ps:List (List Int)} {k:Nat}
theorem aA4:iw P W H least lv ps 0=[]:=by unfold iw; rw [aDF]; rfl
theorem aBr (h:k<ps.length):iw P W H least lv ps (k+1)=iw P W H least lv ps k++(bA P W H least lv (ps.getD k [])).map (dK P):=by
  unfold iw; rw [aCV h,List.map_append]
theorem zG (hleast:1≤least) (hn:bs.length=W*H) (he:ps=(bR W H least bs (W*H)).2):(iw P W H least lv ps k).length≤W*H:=by
  unfold iw; rw [List.length_map]; exact z8 hleast hn he
theorem vw (he:ps=(bR W H least bs (W*H)).2):iw P W H least lv ps ps.length=(eX P W H least lv bs).map (dK P):=by
  unfold iw; rw [zJ he (Nat.le_refl _)]
end
end Det
