/- Sets of numbers asked at whatever key: total forms of the rules for sets. -/
import Derived.Test.YtmgmoedcpndppaaSL29
set_option linter.unusedVariables false
set_option linter.unusedSimpArgs false
namespace Go.SL
open Go
def sget (ins:List Bool) (k:Int):Bool:=if k<0 then false else ins.getD k.toNat false
theorem sget_mem {ks:List Int} {ins:List Bool} (h0:∀ k ∈ ks,0≤k) (hk:∀ i:Nat,((i:Int) ∈ ks↔ins.getD i false=true)) (k:Int):(k ∈ ks↔sget ins k=true):=by
  unfold sget
  by_cases h:k<0
  · rw [if_pos h]
    exact ⟨fun hm=>absurd (h0 k hm) (by omega),fun hf=>by cases hf⟩
  · rw [if_neg h]
    obtain ⟨i,rfl⟩:=Int.eq_ofNat_of_zero_le (show 0≤k by omega)
    exact hk i
section
variable {r:Option Nat} {P:Program} {ops:Array Oper} {Q:Exit→Act→World→Prop} {a:Act} {w w0:World} {n:Nat} {ds:List Deferred} {L:List (Nat × Value)} {X:Nat→Prop} {B M M':List Asr}
  {d i j b:Nat} {ty t kt:TypeId} {pos:String} {af:Array Edge} {rest:List Nat} {x y z:Operand} {ins:List Bool} {k:Int}
theorem run_lookup_setI (ht:tSet P t=some kt) (h:setOK (hp w) b ins):(Instr.lookup t (.map (some b)) (.int .i64 k) false).run P w=.ok (.bool (sget ins k)) w:=by
  obtain ⟨e,q,h1,h2,h3⟩:=tSet_spec ht
  obtain ⟨es,c,ks,hb,hm,h0,hk⟩:=h
  have hb':w.heap[b]? = some (.map es c):=hb
  unfold Instr.lookup
  simp only [Sem.run_bind,run_underlying h1,Result.andThen,MapKept.run_getObj_map hb',Sem.run_pure,run_checkKey h2,run_findKey h2 hm]
  have hki:=sget_mem h0 hk k
  cases hp:posK k ks 0 with
  | none =>
    have:=posK_none.1 hp
    have hf:sget ins k=false:=by
      cases hh:sget ins k with
      | false=>rfl
      | true=>exact absurd (hki.2 hh) this
    simp only [Option.map_none,Sem.run_bind,run_zero h3,Result.andThen,Sem.run_pure,hf]
    rfl
  | some j =>
    obtain ⟨m,-,hm'⟩:=posK_some hp
    have:=hki.1 (List.mem_of_getElem? hm')
    simp only [Option.map_some,Sem.run_bind,Sem.run_pure,Result.andThen,this]
    rfl
theorem RunV.lookupI (ht:tSet P t=some kt) (hx:ev L x=some (.map (some b))) (hy:ev L y=some (.int .i64 k)) (h:setOK (hp w) b ins):RunV P n ds L (.lookup t x y false) ty w (.bool (sget ins k)) w:=fun a d pos af g hf=>by
  simp only [execOp,hf.eval hx,hf.eval hy]
  exact run_v (run_lookup_setI ht h)
theorem rep_getD (n q:Nat):(List.replicate n false).getD q false=false:=by
  rw [List.getD_eq_getElem?_getD,List.getElem?_replicate]
  split <;> rfl
theorem O.setAt (hf:Fr a n ds L) (hS:St w0 w X B M) (ho:ops[i]? = some ⟨none,.mapUpdate t x y z,ty,pos,af,none⟩) (ht:tSet P t=some kt) (hx:ev L x=some (.map (some b))) (hy:ev L y=some (.int .i64 k)) (hz:ev L z=some (.bool true))
    (hM:M[j]? = some (ms b ins)) (hq:0≤k∧k<(ins.length:Int)) (hM':M.set j (ms b (ins.set k.toNat true))=M') (kk:∀ w',St w0 w' X B M'→O r P ops Q rest a w'):O r P ops Q (i::rest) a w :=
  O.mapSet (q:=k.toNat) hf hS ho ht hx (by rw [hy,Int.toNat_of_nonneg hq.1]) hz hM (by omega) hM' kk
end
end Go.SL
