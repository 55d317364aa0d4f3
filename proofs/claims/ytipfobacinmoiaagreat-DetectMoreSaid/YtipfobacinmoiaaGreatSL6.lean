/- Regions that draw their order and whose operations leave memory as the class says (quiet), guards, sums without wraps, small rules. -/
import Derived.Test.YtipfobacinmoiaaGreatSL5
import Derived.Still
import Derived.Deep.Quiet
import Derived.Laws.Wrap64
import Derived.IntWalk
set_option linter.unusedVariables false
set_option linter.unusedSimpArgs false
namespace Go.SL
open Go
section
variable {r:Option Nat} {P:Program} {Q:Exit→Act→World→Prop} {ops:Array Oper} {i:Nat} {rest l:List Nat} {a:Act} {w w0 w':World} {n:Nat} {ds:List Deferred} {L:List (Nat × Value)}
  {d:Nat} {op:Op} {ty t e:TypeId} {pos:String} {af:Array Edge} {v z:Value} {X:Nat→Prop} {B M M':List Asr} {x y:Operand} {b o j:Nat} {cs:Array Value}
theorem W.regionL {id:Nat} (hl:List.range ops.size=l) (h:O r P ops Q l a w):W r P (.region id ops false) Q a w:=W.region (hl▸h)
theorem wanted_some {j dj:Nat} {want c:Bool} {dst:Option Tmp} (hf:Fr a n ds L) (hj:(ops[j]?).bind (·.dst)=some dj) (hv:lk L dj=some (.bool c)) :
    Region.wanted ⟨dst,op,ty,pos,af,some (j,want)⟩ (yielded ops a.tmps)=(c == want):=wanted_of hf hj hv
theorem wanted_undef {j dj:Nat} {want:Bool} {dst:Option Tmp} (hf:Fr a n ds L) (hj:(ops[j]?).bind (·.dst)=some dj) (hv:lk L dj=some undef) :
    Region.wanted ⟨dst,op,ty,pos,af,some (j,want)⟩ (yielded ops a.tmps)=false:=by
  have h:=hf.get dj _ hv
  simp only [Region.wanted,yielded,hj]
  simp [h,undef]
theorem O.skipB {jj dj:Nat} {want c:Bool} (hf:Fr a n ds L) (ho:ops[i]? = some ⟨some d,op,ty,pos,af,some (jj,want)⟩) (hj:(ops[jj]?).bind (·.dst)=some dj) (hv:lk L dj=some (.bool c)) (hc:c=!want) (hd:Nat.blt d n=true)
    (k:∀ a',Fr a' n ds ((d,undef)::L)→O r P ops Q rest a' w):O r P ops Q (i::rest) a w:=by
  subst hc
  exact O.skip hf ho hj hv hd k
theorem O.skipU {jj dj:Nat} {want:Bool} (hf:Fr a n ds L) (ho:ops[i]? = some ⟨some d,op,ty,pos,af,some (jj,want)⟩) (hj:(ops[jj]?).bind (·.dst)=some dj) (hv:lk L dj=some undef) (hd:Nat.blt d n=true)
    (k:∀ a',Fr a' n ds ((d,undef)::L)→O r P ops Q rest a' w):O r P ops Q (i::rest) a w:=by
  unfold O wpOpsIn
  simp only [ho]
  rw [if_neg (by rw [wanted_undef hf hj hv]; simp)]
  exact ⟨fun _ _=>trivial,k _ (hf.put hd undef)⟩
theorem O.gvalB {jj dj:Nat} {want c:Bool} (hf:Fr a n ds L) (ho:ops[i]? = some ⟨some d,op,ty,pos,af,some (jj,want)⟩) (hj:(ops[jj]?).bind (·.dst)=some dj) (hv:lk L dj=some (.bool c)) (hc:c=want) (hnd:noDefer op=true) (hd:Nat.blt d n=true)
    (hr:RunV P n ds L op ty w v w') (k:∀ a',Fr a' n ds ((d,v)::L)→O r P ops Q rest a' w'):O r P ops Q (i::rest) a w:=by
  subst hc
  exact O.gval hf ho hj hv hnd hd hr k
theorem O.gcallB {f:FuncId} {args:Array Value} {R:Value→World→Prop} {jj dj:Nat} {want c:Bool} (hf:Fr a n ds L) (ho:ops[i]? = some ⟨some d,op,ty,pos,af,some (jj,want)⟩) (hj:(ops[jj]?).bind (·.dst)=some dj) (hv:lk L dj=some (.bool c)) (hc:c=want) (hnd:noDefer op=true) (hd:Nat.blt d n=true)
    (hr:RunE P n ds L op ty w f args) (hcall:Calls P f args w fun e w'=>∃ v,e=.returned v∧R v w')
    (k:∀ v w',R v w'→∀ a',Fr a' n ds ((d,v)::L)→O r P ops Q rest a' w'):O r P ops Q (i::rest) a w:=by
  subst hc
  exact O.gcall hf ho hj hv hnd hd hr hcall k
theorem O.cutN {l₁ l₂:List Nat} (R:Act→World→Prop) (hl:l=l₁++l₂) (h₁:O r P ops (fun e a w=>e=.normal∧R a w) l₁ a w) (h₂:∀ a w,R a w→O r P ops Q l₂ a w):O r P ops Q l a w:=by
  subst hl
  exact O.cut R h₁ h₂
theorem W.ifdI {x y:Code} {c:Operand} {p:Prop} {inst:Decidable p} (hf:Fr a n ds L) (hc:ev L c=some (.bool (@decide p inst))) (ht:p→W r P x Q a w) (hn:¬ p→W r P y Q a w):W r P (.cond c x y) Q a w :=
  W.if_ hf hc (fun h=>ht (of_decide_eq_true h)) (fun h=>hn (of_decide_eq_false h))
theorem i64_id {p:Int} (h:-9223372036854775808≤p∧p≤9223372036854775807):IntKind.i64.wrap p=p:=by
  rw [IntKind.wrap_i64]; omega
variable {t':TypeId} {p q:Int}
theorem RunV.addI (hx:ev L x=some (.int .i64 p)) (hy:ev L y=some (.int .i64 q)) (h:-9223372036854775808≤p+q∧p+q≤9223372036854775807):RunV P n ds L (.binOp .add t x y t') ty w (.int .i64 (p+q)) w:=by
  have:=RunV.add (P:=P) (n:=n) (ds:=ds) (ty:=ty) (w:=w) (t:=t) (t':=t') hx hy
  rwa [i64_id h] at this
theorem RunV.subI (hx:ev L x=some (.int .i64 p)) (hy:ev L y=some (.int .i64 q)) (h:-9223372036854775808≤p-q∧p-q≤9223372036854775807):RunV P n ds L (.binOp .sub t x y t') ty w (.int .i64 (p-q)) w:=by
  have:=RunV.sub (P:=P) (n:=n) (ds:=ds) (ty:=ty) (w:=w) (t:=t) (t':=t') hx hy
  rwa [i64_id h] at this
theorem RunV.mulI (hx:ev L x=some (.int .i64 p)) (hy:ev L y=some (.int .i64 q)) (h:-9223372036854775808≤p*q∧p*q≤9223372036854775807):RunV P n ds L (.binOp .mul t x y t') ty w (.int .i64 (p*q)) w:=by
  have:=RunV.mul (P:=P) (n:=n) (ds:=ds) (ty:=ty) (w:=w) (t:=t) (t':=t') hx hy
  rwa [i64_id h] at this
theorem RunV.quoN {p' q':Nat} (hx:ev L x=some (.int .i64 p)) (hy:ev L y=some (.int .i64 q)) (hp:p=(p':Int)) (hq:q=(q':Int)) (h0:0<q') (h:p'≤9223372036854775807):RunV P n ds L (.binOp .quo t x y t') ty w (.int .i64 ((p'/q':Nat):Int)) w:=by
  subst hp hq
  have:=RunV.quo (P:=P) (n:=n) (ds:=ds) (ty:=ty) (w:=w) (t:=t) (t':=t') hx hy (by omega)
  have hle:p'/q'≤p':=Nat.div_le_self _ _
  have e:(p':Int).tdiv (q':Int)=((p'/q':Nat):Int):=rfl
  have h2:IntKind.i64.wrap ((p':Int).tdiv (q':Int))=((p'/q':Nat):Int):=by
    rw [e]
    generalize p'/q'=z at hle ⊢
    exact i64_id (by omega)
  rwa [h2] at this
theorem RunV.remN {p' q':Nat} (hx:ev L x=some (.int .i64 p)) (hy:ev L y=some (.int .i64 q)) (hp:p=(p':Int)) (hq:q=(q':Int)) (h0:0<q'):RunV P n ds L (.binOp .rem t x y t') ty w (.int .i64 ((p' % q':Nat):Int)) w:=by
  subst hp hq
  exact RunV.rem (P:=P) (n:=n) (ds:=ds) (ty:=ty) (w:=w) (t:=t) (t':=t') hx hy (by omega)
theorem wpOpIn_of_qOp {C:World→Prop} {K:Act→Prop} {K':Act→World→Prop} (hnd:ops.all (fun o=>noDefer o.op)=true) (hC:C w) (h:∀ a w',C w'→K a→K' a w') (hh:qOp P ops C i K a):wpOpIn (FW r) 0 P ops Q i K' a w:=by
  unfold qOp at hh
  unfold wpOpIn
  split
  · rename_i ho; simp only [ho] at hh; exact h _ _ hC hh
  · rename_i o ho
    simp only [ho] at hh
    have hn:noDefer o.op=true:=by
      have:=Array.all_eq_true.1 hnd
      obtain ⟨hi,rfl⟩:=Array.getElem?_eq_some_iff.1 ho
      exact this i hi
    split
    · rename_i hw
      simp only [hw,if_true] at hh
      obtain ⟨u,h1,h2⟩:=hh
      have h3:=h1 w hC
      unfold Oper.quietAt at h3
      refine ⟨fun _ _=>trivial,?_⟩
      rw [semAt_FW hn]
      generalize (execOp a.eval o).run P w=res at h3
      cases res with
      | ok x w1 =>
        cases x <;> simp only [Oper.quietUpon] at h3 <;> simp only [Oper.uponIn]
        case value u'=>obtain ⟨e1,e2⟩:=h3; rw [e1,e2]; exact h _ _ hC h2
        case skip=>obtain ⟨e1,e2⟩:=h3; rw [e1,← e2]; exact h _ _ hC h2
        case enter f args =>
          obtain ⟨e1,hc⟩:=h3
          rw [e1]
          refine ⟨fun h=>by simp [FW] at h,callsIn_FW.2 (hc.mono fun e w'' ⟨he,hw''⟩=>?_)⟩
          subst he
          exact h _ _ hw'' h2
      | halt x w1=>simp only [Oper.quietUpon] at h3
    · rename_i hw; simp only [hw] at hh; exact ⟨fun _ _=>trivial,h _ _ hC hh⟩
theorem wpAnyIn_of_quiet {C:World→Prop} {K:Act→Prop} (hnd:ops.all (fun o=>noDefer o.op)=true) (hQ:∀ a w,C w→K a→Q .normal a w):∀ (fuel:Nat) (listed:Array Bool) (a:Act) (w:World),C w →
    wpAnyQ P .any ops C K fuel listed a→wpAnyIn (FW r) 0 P .any ops Q fuel listed a w
  | 0,_,_,_,hw,h=>⟨h.1,hQ _ _ hw h.2⟩
  | fuel+1,_,_,_,hw,h=>⟨fun h0=>hQ _ _ hw (h.1 h0),fun i hi=>wpOpIn_of_qOp hnd hw (fun a' w' hw'=>wpAnyIn_of_quiet hnd hQ fuel _ a' w' hw') (h.2 i hi)⟩
def OQ (P:Program) (ops:Array Oper) (C:World→Prop) (K:Act→Prop) (l:List Oper) (a:Act):Prop:=wpQuiet P ops C K l a
theorem W.drawQ {id:Nat} {l:List Oper} (C:World→Prop) (hm:P.follows .mixedOrders=true) (hl:ops.toList=l) (hB:Region.lexB .any ops=true) (hnd':l.all (fun o=>noDefer o.op)=true) (hC:C w.drew)
    (h:OQ P ops C (fun a'=>∀ w',C w'→Q .normal a' w') l a):W r P (.region id ops true) Q a w:=by
  subst hl
  have hnd:ops.all (fun o=>noDefer o.op)=true:=by rw [← Array.all_toList]; exact hnd'
  simp only [Region.lexB,Bool.and_eq_true] at hB
  refine wpIn_region_any hm (wpAnyIn_of_quiet (K:=fun a'=>∀ w',C w'→Q .normal a' w') hnd (fun _ w' hw' h=>h w' hw') _ _ _ _ hC ?_)
  have:=wpAnyQ_lex (C:=C) (md:=.any) hB.1 ops.toList 0 (Array.replicate ops.size false) a (by simp) (by simpa using hB.2) h
  simpa using this
variable {C:World→Prop} {K:Act→Prop} {lo:List Oper}
theorem OQ.nil (h:K a):OQ P ops C K [] a:=h
theorem OQ.val (hf:Fr a n ds L) (hd:Nat.blt d n=true) (hr:∀ w,C w→RunV P n ds L op ty w v w) (k:∀ a',Fr a' n ds ((d,v)::L)→OQ P ops C K lo a'):OQ P ops C K (⟨some d,op,ty,pos,af,none⟩::lo) a:=by
  unfold OQ wpQuiet
  rw [if_pos (by simp [Region.wanted])]
  refine ⟨v,fun w hw=>?_,k _ (hf.put hd v)⟩
  unfold Oper.quietAt
  rw [hr w hw a (some d) pos af none hf]
  exact ⟨rfl,rfl⟩
theorem OQ.call {f:FuncId} {args:Array Value} (hf:Fr a n ds L) (hd:Nat.blt d n=true) (hr:∀ w,C w→RunE P n ds L op ty w f args) (hc:∀ w,C w→Calls P f args w fun e w'=>e=.returned v∧C w') (k:∀ a',Fr a' n ds ((d,v)::L)→OQ P ops C K lo a'):OQ P ops C K (⟨some d,op,ty,pos,af,none⟩::lo) a:=by
  unfold OQ wpQuiet
  rw [if_pos (by simp [Region.wanted])]
  refine ⟨v,fun w hw=>?_,k _ (hf.put hd v)⟩
  unfold Oper.quietAt
  rw [hr w hw a (some d) pos af none hf]
  exact ⟨rfl,hc w hw⟩
theorem OQ.gval {jj dj:Nat} {want c:Bool} (hf:Fr a n ds L) (hj:(ops[jj]?).bind (·.dst)=some dj) (hv:lk L dj=some (.bool c)) (hc:c=want) (hd:Nat.blt d n=true) (hr:∀ w,C w→RunV P n ds L op ty w v w) (k:∀ a',Fr a' n ds ((d,v)::L)→OQ P ops C K lo a'):OQ P ops C K (⟨some d,op,ty,pos,af,some (jj,want)⟩::lo) a:=by
  unfold OQ wpQuiet
  rw [if_pos (by rw [wanted_of hf hj hv,hc]; simp)]
  refine ⟨v,fun w hw=>?_,k _ (hf.put hd v)⟩
  unfold Oper.quietAt
  rw [hr w hw a (some d) pos af _ hf]
  exact ⟨rfl,rfl⟩
theorem OQ.skipB {jj dj:Nat} {want c:Bool} (hf:Fr a n ds L) (hj:(ops[jj]?).bind (·.dst)=some dj) (hv:lk L dj=some (.bool c)) (hc:c=!want) (hd:Nat.blt d n=true) (k:∀ a',Fr a' n ds ((d,undef)::L)→OQ P ops C K lo a'):OQ P ops C K (⟨some d,op,ty,pos,af,some (jj,want)⟩::lo) a:=by
  unfold OQ wpQuiet
  rw [if_neg (by rw [wanted_of hf hj hv,hc]; simp)]
  exact k _ (hf.put hd undef)
theorem OQ.skipU {jj dj:Nat} {want:Bool} (hf:Fr a n ds L) (hj:(ops[jj]?).bind (·.dst)=some dj) (hv:lk L dj=some undef) (hd:Nat.blt d n=true) (k:∀ a',Fr a' n ds ((d,undef)::L)→OQ P ops C K lo a'):OQ P ops C K (⟨some d,op,ty,pos,af,some (jj,want)⟩::lo) a:=by
  unfold OQ wpQuiet
  rw [if_neg (by rw [wanted_undef hf hj hv]; simp)]
  exact k _ (hf.put hd undef)
theorem Sep.front {h:Hp} {n:Nat} {old:Nat→Prop} {p:Asr}:∀ {M:List Asr} {i:Nat},Sep h n old M→M[i]? = some p→Sep h n old (p::M.eraseIdx i)
  | [],_,_,hi=>by simp at hi
  | q::t,0,hs,hi=>by
    simp only [List.getElem?_cons_zero,Option.some.injEq] at hi
    subst hi
    simpa using hs
  | q::t,i+1,hs,hi=>by
    simp only [List.getElem?_cons_succ] at hi
    have ih:=Sep.front hs.2 hi
    simp only [List.eraseIdx_cons_succ]
    refine ⟨⟨ih.1.1,ih.1.2.1,fun s hs' b hb hsb=>?_⟩,⟨hs.1.1,hs.1.2.1,fun s hs'=>hs.1.2.2 s (List.mem_of_mem_eraseIdx hs')⟩,ih.2⟩
    rcases List.mem_cons.1 hs' with rfl | h1
    · exact hs.1.2.2 p (List.mem_of_getElem? hi) b hsb hb
    · exact ih.1.2.2 s h1 b hb hsb
theorem St.front {p:Asr} (h:St w0 w X B M) (hi:M[i]? = some p) (hM:p::M.eraseIdx i=M'):St w0 w X B M' :=
  hM▸⟨h.os,h.tape,h.output,h.size,h.old,Sep.front h.sep hi,h.bor⟩
end
theorem RunV.makeFunc {P:Program} {w:World} {n:Nat} {ds:List Deferred} {L:List (Nat × Value)} {ty:TypeId} {fn:Fn} {first captured:Array Operand} {vs us:List Value} {v:Value} (h1:evA L first.toList=some vs) (h2:evA L captured.toList=some us) (hv:Value.func fn vs.toArray us.toArray=v) (hdummy:True=True) :
    RunV P n ds L (.makeFunc fn first captured) ty w v w:=fun a d pos af g hf=>by
  have e1:first.map a.eval=vs.toArray:=by apply Array.ext'; rw [Array.toList_map,hf.evA h1]
  have e2:captured.map a.eval=us.toArray:=by apply Array.ext'; rw [Array.toList_map,hf.evA h2]
  subst hv
  simp only [execOp,e1,e2]
  rfl
end Go.SL
namespace Go.SL
open Go
def Ret {G:Type} (P:Program) (f:FuncId) (args:Array Value) (w:World) (v:G→Value) (R:G→World→Prop):Prop :=
  Calls P f args w fun e w'=>∃ g,e=.returned (v g)∧R g w'
section
variable {r:Option Nat} {P:Program} {Q:Exit→Act→World→Prop} {ops:Array Oper} {i:Nat} {rest l:List Nat} {a:Act} {w w0 w':World} {n:Nat} {ds:List Deferred} {L:List (Nat × Value)}
  {d:Nat} {op:Op} {ty t e:TypeId} {pos:String} {af:Array Edge} {X X':Nat→Prop} {B M M' N:List Asr} {G:Type} {v:G→Value} {R:G→World→Prop} {f:FuncId} {args:Array Value}
theorem Ret.mono {G':Type} {v':G'→Value} {R':G'→World→Prop} (h:Ret P f args w v R) (hm:∀ g w',R g w'→∃ g',v g=v' g'∧R' g' w'):Ret P f args w v' R' :=
  Calls.mono h fun e w' ⟨g,he,hR⟩=>let ⟨g',e',hR'⟩:=hm g w' hR; ⟨g',by rw [he,e'],hR'⟩
theorem ret_of_W {fn:Func} {c:Code} {lv:List Value} (hf:P.funcs[f]? = some fn) (hb:fn.body=some c) (hn:fn.ntmps=n) (hl:Nat.ble lv.length n=true)
    (h:∀ a,Fr a n [] (argsL 0 lv)→W none P c (bodyPost P fn (fun e w'=>∃ g,e=.returned (v g)∧R g w')) a w):Ret P f lv.toArray w v R:=calls_of_W hf hb hn hl h
theorem O.callR (hf:Fr a n ds L) (ho:ops[i]? = some ⟨some d,op,ty,pos,af,none⟩) (hnd:noDefer op=true) (hd:Nat.blt d n=true)
    (hr:RunE P n ds L op ty w f args) (hc:Ret P f args w v R)
    (k:∀ g w',R g w'→∀ a',Fr a' n ds ((d,v g)::L)→O r P ops Q rest a' w'):O r P ops Q (i::rest) a w :=
  O.call (R:=fun u w'=>∃ g,u=v g∧R g w') hf ho hnd hd hr (Calls.mono hc fun _ _ ⟨g,he,hR⟩=>⟨v g,he,g,rfl,hR⟩) (fun _ w' ⟨g,he,hR⟩ a' hf'=>by subst he; exact k g w' hR a' hf')
theorem O.gcallR {jj dj:Nat} {want c:Bool} (hf:Fr a n ds L) (ho:ops[i]? = some ⟨some d,op,ty,pos,af,some (jj,want)⟩) (hj:(ops[jj]?).bind (·.dst)=some dj) (hv:lk L dj=some (.bool c)) (hcc:c=want) (hnd:noDefer op=true) (hd:Nat.blt d n=true)
    (hr:RunE P n ds L op ty w f args) (hc:Ret P f args w v R)
    (k:∀ g w',R g w'→∀ a',Fr a' n ds ((d,v g)::L)→O r P ops Q rest a' w'):O r P ops Q (i::rest) a w :=
  O.gcallB (R:=fun u w'=>∃ g,u=v g∧R g w') hf ho hj hv hcc hnd hd hr (Calls.mono hc fun _ _ ⟨g,he,hR⟩=>⟨v g,he,g,rfl,hR⟩) (fun _ w' ⟨g,he,hR⟩ a' hf'=>by subst he; exact k g w' hR a' hf')
theorem OQ.callR {K:Act→Prop} {lo:List Oper} {v:Value} {R:Unit→World→Prop} (hf:Fr a n ds L) (hd:Nat.blt d n=true) (hr:∀ w,St w0 w X B M→RunE P n ds L op ty w f args) (hc:∀ w,St w0 w X B M→Ret P f args w (fun _:Unit=>v) R)
    (hS:∀ w w',R () w'→St w0 w X B M→St w0 w' X B M) (k:∀ a',Fr a' n ds ((d,v)::L)→OQ P ops (fun w=>St w0 w X B M) K lo a'):OQ P ops (fun w=>St w0 w X B M) K (⟨some d,op,ty,pos,af,none⟩::lo) a :=
  OQ.call hf hd hr (fun w hw=>Calls.mono (hc w hw) fun _ w' ⟨_,he,hR⟩=>⟨he,hS w w' hR hw⟩) k
theorem St.callX1 {p:Asr} (h:St w0 w X B M) (hc:St w w' X' [] N) (hi:M[i]? = some p) (hX:∀ b,X' b→p.fp b):St w0 w' X B (N++M.eraseIdx i):=by
  refine h.callX hc (fun b hb=>⟨p,List.mem_of_getElem? hi,hX b hb⟩) (List.eraseIdx_sublist _ _) (fun q hq b hqb hb=>?_)
  have hs:=(Sep.front h.sep hi).1.2.2
  exact hs q hq b (hX b hb) hqb
theorem St.dropN (h:St w0 w X B (N++M)):St w0 w X B M:=h.sub (List.sublist_append_right _ _)
end
end Go.SL
