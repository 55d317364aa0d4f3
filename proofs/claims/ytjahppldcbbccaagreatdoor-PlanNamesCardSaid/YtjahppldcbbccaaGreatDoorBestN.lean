/- The best run, in plain Lean. -/
import Derived.Test.YtjahppldcbbccaaGreatDoorSLz
set_option linter.unusedVariables false
set_option linter.unusedSimpArgs false
namespace Go.SL
open Go
abbrev BTask:=Int × Int × Int × Int
abbrev BRun:=List (Int × Int) × Int × Int
def bestStep (rest:Int→Int→BRun) (used e i:Int) (t:BTask) (b:BRun):BRun :=
  if bitand .i64 (Int.fdiv used (2^(min i.toNat 64))) 1≠0 then b else
  let s:=if t.1<e then e else t.1
  let en:=IntKind.i64.wrap (s+t.2.2.1)
  if en≤t.2.1 then
    let a:=rest (bitor .i64 used (IntKind.i64.wrap (1*2^(min i.toNat 64)))) en
    let v:=IntKind.i64.wrap (a.2.2+t.2.2.2)
    if v>b.2.2∨(v=b.2.2∧a.2.1<b.2.1) then ((i,s)::a.1,a.2.1,v) else b
  else b
def bestLoop (rest:Int→Int→BRun) (l:List BTask) (used e:Int):Nat→BRun→Int→BRun
  | 0,b,_=>b
  | n+1,b,i=>if i<(l.length:Int) then match idx l i with
      | some t=>bestLoop rest l used e n (bestStep rest used e i t b) (IntKind.i64.wrap (i+1))
      | none=>b
    else b
def bestN (F:Nat):Nat→List BTask→Int→Int→BRun
  | 0,_,_,e=>([],e,0)
  | n+1,l,used,e=>bestLoop (bestN F n l) l used e F ([],e,0) 0
end Go.SL
