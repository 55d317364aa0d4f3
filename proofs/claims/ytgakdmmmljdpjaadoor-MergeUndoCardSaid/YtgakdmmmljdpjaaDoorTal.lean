/- Part of a proof: laws and walks. -/
import Derived.Test.YtgakdmmmljdpjaaDoorTac
import Derived.Test.YtgakdmmmljdpjaaDoorTaf
import Derived.Test.YtgakdmmmljdpjaaDoorTak
set_option linter.unusedVariables false
set_option linter.unusedSimpArgs false
namespace Go.SL
open Go
section
variable {r:Option Nat} {P:Program} {Q:Exit→Act→World→Prop} {ops:Array Oper} {i:Nat} {rest l:List Nat} {a:Act} {w w' w0:World} {n:Nat} {ds:List Deferred} {L:List (Nat × Value)}
  {d:Nat} {op:Op} {ty:TypeId} {v:Value} {y:Code} {id:Nat} {X:Nat→Prop} {B M N R:List Asr} {pp qq:Asr}
def mvk (L:List (Nat × Value)) (n:Nat):Option Oper→Option (Nat × Value)
  | some ⟨some d,.move x,_,_,_,none⟩=>match Nat.blt d n,ev L x with
    | true,some v=>some (d,v)
    | _,_=>none
  | some ⟨some d,.assign x,_,_,_,none⟩=>match Nat.blt d n,ev L x with
    | true,some v=>some (d,v)
    | _,_=>none
  | _=>none
def opk (n:Nat):Option Oper→Option (Nat × Op × TypeId)
  | some ⟨some d,op,ty,_,_,none⟩=>match noDefer op,Nat.blt d n with
    | true,true=>some (d,op,ty)
    | _,_=>none
  | _=>none
theorem ov (hf:Fr a n ds L) (h:opk n ops[i]? = some (d,op,ty)) (hr:RunV P n ds L op ty w v w') (k:∀ a',Fr a' n ds ((d,v)::L)→O r P ops Q rest a' w'):O r P ops Q (i::rest) a w:=by
  unfold opk at h
  split at h
  · split at h
    · cases h
      exact O.val hf (by assumption) (by assumption) (by assumption) hr k
    · cases h
  · cases h
class App (A B:List Asr) (C:outParam (List Asr)):Prop where
  eq:A++B=C
instance App.nil:App [] B B:=⟨rfl⟩
instance App.cons [h:App N B R]:App (pp::N) B (pp::R):=⟨congrArg (pp::·) h.eq⟩
theorem St.cl [h:App N M R] (hS:St w0 w X B M) (hc:St w w' noX [] N):St w0 w' X B R:=h.eq▸hS.call hc
class Del (i:Nat) (M:List Asr) (p:outParam Asr) (R:outParam (List Asr)):Prop where
  get:M[i]? = some p
  eq:M.eraseIdx i=R
instance Del.zero:Del 0 (pp::M) pp M:=⟨rfl,rfl⟩
instance Del.succ [h:Del i M pp R]:Del (i+1) (qq::M) pp (qq::R):=⟨h.get,congrArg (qq::·) h.eq⟩
theorem St.fr (hS:St w0 w X B M) (i:Nat) [h:Del i M pp R]:St w0 w X B (pp::R):=hS.front h.get (congrArg (pp::·) h.eq)
theorem bl {a b:Nat} (h:Nat.ble a b=true):a≤b:=Nat.le_of_ble_eq_true h
theorem St.p {b:Nat} {o:Obj} (h:St w0 w X B M) (i:Nat) (hi:M[i]? = some (pt b o)):w.heap[b]? = some o:=h.ptAt hi
theorem St.b {T:Type} {sz:Nat} {enc:T→List Value} {l:List T} (h:St w0 w X B M) (j:Nat) (hi:B[j]? = some (rdE sz enc v l)):rdEOK (hp w) sz enc v l:=h.rdB hi
theorem St.s {T:Type} {e sz:Nat} {enc:T→List Value} {l:List T} (h:St w0 w X B M) (j:Nat) (hi:M[j]? = some (slE e sz enc v l)):rdEOK (hp w) sz enc v l:=h.rdS hi
class Sel (bs:List Nat) (M:List Asr) (N:outParam (List Asr)):Prop where
  sub:N.Sublist M
instance Sel.nil:Sel [] M []:=⟨List.nil_sublist _⟩
instance Sel.one {bs:List Nat} [h:Sel bs M N]:Sel (1::bs) (pp::M) (pp::N):=⟨h.sub.cons_cons _⟩
instance Sel.zero {bs:List Nat} [h:Sel bs M N]:Sel (0::bs) (pp::M) N:=⟨h.sub.cons _⟩
theorem St.sl (hS:St w0 w X B M) (bs:List Nat) [h:Sel bs M N]:St w0 w X B N:=hS.sub h.sub
def pk (L:List (Nat × Value)):List (Nat × Value)→List (Nat × Value)
  | []=>[]
  | (k,_)::t=>match lk L k with
    | some v=>(k,v)::pk L t
    | none=>[]
theorem pk_subs:∀ {L':List (Nat × Value)},pk L L'=L'→Subs L L'
  | [],_=>trivial
  | (k,v)::t,h=>by
    simp only [pk] at h
    split at h
    · rename_i u hu
      simp only [List.cons.injEq,Prod.mk.injEq,true_and] at h
      exact ⟨h.1▸hu,pk_subs h.2⟩
    · cases h
theorem Fr.q {L':List (Nat × Value)} (h:Fr a n ds L) (e:pk L L'=L'):Fr a n ds L':=h.to (pk_subs e)
def gpk (n:Nat) (L:List (Nat × Value)) (ops:Array Oper):Option Oper→Option (Nat × Op × TypeId × Bool × Bool)
  | some ⟨some d,op,ty,_,_,some (jj,want)⟩=>match (ops[jj]?).bind (·.dst) with
    | some dj=>match lk L dj,noDefer op,Nat.blt d n with
      | some (.bool c),true,true=>some (d,op,ty,c,want)
      | _,_,_=>none
    | none=>none
  | _=>none
theorem sk {c want:Bool} (hf:Fr a n ds L) (h:gpk n L ops ops[i]? = some (d,op,ty,c,want)) (hc:c=!want) (k:∀ a',Fr a' n ds ((d,undef)::L)→O r P ops Q rest a' w):O r P ops Q (i::rest) a w:=by
  unfold gpk at h
  split at h
  · split at h
    · split at h
      · cases h
        exact O.skipB hf (by assumption) (by assumption) (by assumption) hc (by assumption) k
      · cases h
    · cases h
  · cases h
def clk (n:Nat) (L:List (Nat × Value)):Option Oper→Option (Nat × FuncId × Array Value)
  | some ⟨some d,.call ⟨.value f,args,_⟩,_,_,_,none⟩=>match Nat.blt d n,ev L f,evA L args.toList with
    | true,some (.func (.func fid) first captured),some vs=>some (d,fid,(first.toList++(vs++captured.toList)).toArray)
    | _,_,_=>none
  | _=>none
theorem oc {f:FuncId} {av:Array Value} {G:Type} {u:G→Value} {R:G→World→Prop} (hf:Fr a n ds L) (h:clk n L ops[i]? = some (d,f,av)) (hk:callOK P f=true) (hc:Ret P f av w u R)
    (k:∀ g w',R g w'→∀ a',Fr a' n ds ((d,u g)::L)→O r P ops Q rest a' w'):O r P ops Q (i::rest) a w:=by
  unfold clk at h
  split at h
  · split at h
    · cases h
      exact O.callR hf (by assumption) rfl (by assumption) (RunE.call hk (by assumption) (by assumption) (by apply Array.ext'; simp)) hc k
    · cases h
  · cases h
class SetA (j:Nat) (M:List Asr) (q:Asr) (M':outParam (List Asr)):Prop where
  eq:M.set j q=M'
instance SetA.zero:SetA 0 (pp::M) qq (qq::M):=⟨rfl⟩
instance SetA.succ {j:Nat} [h:SetA j M qq R]:SetA (j+1) (pp::M) qq (pp::R):=⟨congrArg (pp::·) h.eq⟩
end
end Go.SL

namespace Go.SL
open Go
section
variable {r:Option Nat} {P:Program} {ops:Array Oper} {i n:Nat} {ds:List Deferred} {L:List (Nat × Value)} {a:Act} {w:World}
end
end Go.SL

namespace Go.SL
open Go
section
variable {r:Option Nat} {P:Program} {ops:Array Oper} {Q:Exit→Act→World→Prop} {a:Act} {w w0:World} {n:Nat} {ds:List Deferred} {L:List (Nat × Value)} {X:Nat→Prop} {B M:List Asr}
theorem O.buildC {i d j m len:Nat} {t ty e:TypeId} {rest:List Nat} {pos:String} {af:Array Edge} {z:Value} {c:Bool} {p:Asr} {parts:Array (Nat × Operand)} {vs:List (Nat × Value)} {cs' zs:Array Value}
    (hf:Fr a n ds L) (hS:St w0 w X B M) (hj:M[j]? = some (condA c p)) (hc:c=false) (ho:ops[i]? = some ⟨some d,.buildSlice t len parts,ty,pos,af,none⟩) (hd:Nat.blt d n=true)
    (he:tElem P t=some e) (hs:tSize P e=some m) (hz:tZero P e=some z) (h0:Nat.ble (len*m) 16777216=true) (h1:Nat.blt 0 (len*m)=true) (hzs:((List.range (len*m)).map (z.cells[· % z.cells.size]!)).toArray=zs)
    (hv:evP L parts.toList=some vs) (hb:Instr.fill (fun i=>some (i*m,m)) zs vs=some cs')
    (k:∀ b w' a',St w0 w' X B (M.set j (pt b (.cells cs' e (0,0))))→Fr a' n ds ((d,.slice (some ⟨b,0,none⟩) len len)::L)→O r P ops Q rest a' w'):O r P ops Q (i::rest) a w:=by
  refine O.buildSlice hf hS ho hd he hs hz h0 h1 hzs hv hb (fun b w' a' hb hS' hf'=>k b w' a' ?_ hf')
  subst hc
  have h1:=hS'.sep
  obtain ⟨hjl,hje⟩:=List.getElem?_eq_some_iff.1 hj
  refine ⟨hS'.os,hS'.tape,hS'.output,hS'.size,hS'.old,?_,hS'.bor⟩
  have hp:=h1.1
  have hM:=h1.2
  clear h1 hS hS' k hf hf' ho
  revert j
  induction M with
  | nil=>intro j hj hjl _; simp at hj
  | cons q t ih =>
    intro j hj hjl hje
    cases j with
    | zero =>
      simp only [List.set_cons_zero]
      exact ⟨⟨hp.1,hp.2.1,fun s hs=>hp.2.2 s (by simp [hs])⟩,hM.2⟩
    | succ j =>
      simp only [List.set_cons_succ]
      have h2:=ih ⟨hp.1,hp.2.1,fun s hs=>hp.2.2 s (by simp [hs])⟩ hM.2 (j:=j) (by simpa using hj) (by simpa using hjl) (by simpa using hje)
      refine ⟨⟨hM.1.1,hM.1.2.1,fun s hs b' hb' hsb=>?_⟩,h2⟩
      rcases List.mem_or_eq_of_mem_set hs with h3 | h3
      · exact hM.1.2.2 s h3 b' hb' hsb
      · subst h3
        exact hp.2.2 q (by simp) b' hsb hb'
end
section
variable {r:Option Nat} {P:Program} {ops:Array Oper} {Q:Exit→Act→World→Prop} {a:Act} {w w0:World} {n:Nat} {ds:List Deferred} {γ:Type} {X:Nat→Prop} {B M:List Asr}
theorem oj {T:Type} {x y:T} (h:some x=some y):x=y:=Option.some.inj h
def Lq (v:Nat→Value) (i:Nat) (l:List Nat) (N:Nat):List Value:=(List.range N).map fun j=>match Nat.beq j i||l.contains j with
  | true=>undef
  | false=>v j
end
end Go.SL

namespace Go.Proofs.YtgakdmmmljdpjaaDoor
open Go Go.SL
theorem C_ok_33:callOK Tryd.prog 33=true:=by kernel_rfl
set_option maxHeartbeats 400000 in
set_option maxRecDepth 4000 in
theorem cloneC_nil (k c:Nat) (w0:World) :
    Ret Tryd.prog 33 #[.slice none k c] w0 (G:=Unit) (fun _=>.slice none 0 0) (fun _ w=>St w0 w noX [] []):=by
  refine ret_of_W (lv:=[.slice none k c]) Tryd.func33 rfl rfl rfl (fun a hf=>?_)
  replace hf:Fr a 8 [] [(0,.slice none k c)]:=hf
  have hS:St w0 w0 noX [] []:=St.refl w0
  refine W.seq ?_
  refine W.regionL (l:=[0]) rfl ?_
  refine O.val hf rfl rfl rfl (RunV.assign rfl) ?_
  clear hf a; intro a hf
  refine O.nil ?_
  refine k_seq ?_
  refine W.seq ?_
  refine W.seq ?_
  refine W.regionL (l:=[0,1]) rfl ?_
  refine O.val hf rfl rfl rfl (RunV.move rfl) ?_
  clear hf a; intro a hf
  refine O.val hf rfl rfl rfl (RunV.eqNil1 T_elem_22 rfl rfl rfl) ?_
  clear hf a; intro a hf
  refine O.nil ?_
  refine k_seq ?_
  replace hf:Fr a 8 [] [(0,.slice none k c),(2,.slice none 0 0),(4,.bool true)]:=hf.to ⟨rfl,rfl,rfl,trivial⟩
  refine W.if_tt hf rfl ?_
  refine W.seq ?_
  refine W.regionL (l:=[0]) rfl ?_
  refine O.val hf rfl rfl rfl (RunV.assign rfl) ?_
  clear hf a; intro a hf
  refine O.nil ?_
  refine k_seq ?_
  replace hf:Fr a 8 [] [(0,.slice none k c),(2,.slice none 0 0)]:=hf.to ⟨rfl,rfl,trivial⟩
  refine W.ret ?_
  refine k_then_ret ?_
  refine post1 hf rfl (ResOK.tmp rfl) ?_
  exact ⟨(),rfl,hS.sub (List.nil_sublist _) |>.noB⟩
theorem cloneC_spec (vl:Value) (l:List Ch) (w0:World) (hfit:vfit vl) (hl:rdOK (hp w0) 12 vl l.length (encs eC l)) (hz:l.length≤1000000) :
    Ret Tryd.prog 33 #[vl] w0 (G:=Value) (fun g=>g) (fun g w=>St w0 w noX [] [slE 26 12 eC g l]):=by
  have hl2:=hl
  obtain ⟨_,_,A,c,rfl,h3⟩:=hl2
  cases A with
  | some ad=>exact cloneC_some _ l ad c w0 rfl hfit hl hz
  | none =>
    have h0:l=[]:=by
      cases l with
      | nil=>rfl
      | cons x t=>obtain ⟨a,_,_,_,h4,_⟩:=h3 (by simp); cases h4
    subst h0
    refine Calls.mono (cloneC_nil _ _ w0) fun e w' he=>?_
    obtain ⟨_,he,hR⟩:=he
    exact ⟨_,he,hR.nilSl 26 12⟩
set_option maxHeartbeats 400000 in
set_option maxRecDepth 4000 in
theorem apply_err2 (vl:Value) (l:List Ch) (c:Ch) (w0:World) (hG:Lent w0 ordA) (hl:rdOK (hp w0) 12 vl l.length (encs eC l)) (hfit:vfit vl) (hz:l.length≤1000) (S:List PG) (us:List Bool) (hm:histM l=.ok (S,us)) (hc:okC c=true) (e:Int) (hm2:histM (l++[c])=.error e) :
    Ret Tryd.prog 11 #[vl,.agg #[.int .u8 c.kind,.int .i64 c.a.num,.int .i64 c.a.yr,.int .u8 c.a.half,.int .u8 c.a.sec,.int .i64 c.a.cyc,.int .i64 c.b.num,.int .i64 c.b.yr,.int .u8 c.b.half,.int .u8 c.b.sec,.int .i64 c.b.cyc,.int .i64 c.n]] w0 (G:=Unit) (fun _=>.tuple #[.slice none 0 0,.int .i64 e]) (fun _ w=>St w0 w noX [] []):=by
  refine ret_of_W (lv:=[vl,.agg #[.int .u8 c.kind,.int .i64 c.a.num,.int .i64 c.a.yr,.int .u8 c.a.half,.int .u8 c.a.sec,.int .i64 c.a.cyc,.int .i64 c.b.num,.int .i64 c.b.yr,.int .u8 c.b.half,.int .u8 c.b.sec,.int .i64 c.b.cyc,.int .i64 c.n]]) Tryd.func11 rfl rfl rfl (fun a hf=>?_)
  replace hf:Fr a 43 [] [(0,vl),(1,.agg #[.int .u8 c.kind,.int .i64 c.a.num,.int .i64 c.a.yr,.int .u8 c.a.half,.int .u8 c.a.sec,.int .i64 c.a.cyc,.int .i64 c.b.num,.int .i64 c.b.yr,.int .u8 c.b.half,.int .u8 c.b.sec,.int .i64 c.b.cyc,.int .i64 c.n])]:=hf
  have hS:St w0 w0 noX [ordA,rdv 12 vl l.length (encs eC l)] []:=((St.refl w0).lend0 hl).lendA hG
  have hlm:=hl.2.1
  unfold maxLen at hlm
  have he0:=histM_ne hm2
  refine W.seq ?_
  refine W.regionL (l:=[0,1,2]) rfl ?_
  refine O.box (cs:=#[.int .u8 c.kind,.int .i64 c.a.num,.int .i64 c.a.yr,.int .u8 c.a.half,.int .u8 c.a.sec,.int .i64 c.a.cyc,.int .i64 c.b.num,.int .i64 c.b.yr,.int .u8 c.b.half,.int .u8 c.b.sec,.int .i64 c.b.cyc,.int .i64 c.n]) hf hS rfl rfl rfl rfl ?_
  clear hf hS a; intro b_c1 w a hbb_c1 hS hf
  refine O.val hf rfl rfl rfl (RunV.assign rfl) ?_
  clear hf a; intro a hf
  refine O.val hf rfl rfl rfl (RunV.assign rfl) ?_
  clear hf a; intro a hf
  refine O.nil ?_
  refine k_seq ?_
  replace hf:Fr a 43 [] [(0,vl),(3,.pointer (some ⟨b_c1,0,none⟩)),(4,.slice none 0 0),(5,.int .i64 0)]:=hf.to ⟨rfl,rfl,rfl,rfl,trivial⟩
  refine W.seq ?_
  refine W.seq ?_
  refine W.regionL (l:=[0,1,2,3,4,5,6,7,8]) rfl ?_
  refine O.val hf rfl rfl rfl (RunV.move rfl) ?_
  clear hf a; intro a hf
  refine O.callR hf rfl rfl rfl (RunE.call (av:=#[vl]) C_ok_32 rfl rfl rfl) (history_ok vl l _ (hS.bptO (i:=0) rfl) (hS.rdAt (j:=1) rfl) hfit hm) ?_
  clear hf a
  rintro ⟨uv,bm,kvs,gs⟩ w2 ⟨hS1,hI⟩ a hf
  replace hf:Fr a _ _ ((16,.tuple #[.map (some bm),uv,.int .i64 0])::_):=hf
  replace hS:=(hS.call hS1).eqM (N:=[stA 95 24 bm kvs gs,sl 4 1 uv us.length (bools us),pt b_c1 (.cells #[.int .u8 c.kind,.int .i64 c.a.num,.int .i64 c.a.yr,.int .u8 c.a.half,.int .u8 c.a.sec,.int .i64 c.a.cyc,.int .i64 c.b.num,.int .i64 c.b.yr,.int .u8 c.b.half,.int .u8 c.b.sec,.int .i64 c.b.cyc,.int .i64 c.n] 26 (0,0))]) rfl
  clear hS1
  refine O.val hf rfl rfl rfl (RunV.move rfl) ?_
  clear hf a; intro a hf
  refine O.val hf rfl rfl rfl (RunV.extract rfl rfl) ?_
  clear hf a; intro a hf
  refine O.val hf rfl rfl rfl (RunV.extract rfl rfl) ?_
  clear hf a; intro a hf
  refine O.val hf rfl rfl rfl (RunV.extract rfl rfl) ?_
  clear hf a; intro a hf
  refine O.val hf rfl rfl rfl (RunV.assign rfl) ?_
  clear hf a; intro a hf
  refine O.val hf rfl rfl rfl (RunV.assign rfl) ?_
  clear hf a; intro a hf
  refine O.val hf rfl rfl rfl (RunV.assign rfl) ?_
  clear hf a; intro a hf
  refine O.nil ?_
  refine k_seq ?_
  replace hf:Fr a 43 [] [(0,vl),(3,.pointer (some ⟨b_c1,0,none⟩)),(4,.slice none 0 0),(5,.int .i64 0),(8,.int .i64 0)]:=hf.to ⟨rfl,rfl,rfl,rfl,rfl,trivial⟩
  refine W.seq ?_
  refine W.regionL (l:=[0,1]) rfl ?_
  refine O.val hf rfl rfl rfl (RunV.move rfl) ?_
  clear hf a; intro a hf
  refine O.val hf rfl rfl rfl (RunV.toB (c:=false) (RunV.neq rfl rfl) (by decide)) ?_
  clear hf a; intro a hf
  refine O.nil ?_
  refine k_seq ?_
  replace hf:Fr a 43 [] [(0,vl),(3,.pointer (some ⟨b_c1,0,none⟩)),(4,.slice none 0 0),(5,.int .i64 0),(8,.int .i64 0),(21,.bool false)]:=hf.to ⟨rfl,rfl,rfl,rfl,rfl,rfl,trivial⟩
  refine W.if_ff hf rfl ?_
  refine W.skip ?_
  refine k_seq ?_
  replace hf:Fr a 43 [] [(0,vl),(3,.pointer (some ⟨b_c1,0,none⟩)),(4,.slice none 0 0),(5,.int .i64 0)]:=hf.to ⟨rfl,rfl,rfl,rfl,trivial⟩
  refine W.seq ?_
  refine W.seq ?_
  refine W.regionL (l:=[0,1,2]) rfl ?_
  refine O.val hf rfl rfl rfl (RunV.loadN (cs':=#[.int .u8 c.kind,.int .i64 c.a.num,.int .i64 c.a.yr,.int .u8 c.a.half,.int .u8 c.a.sec,.int .i64 c.a.cyc,.int .i64 c.b.num,.int .i64 c.b.yr,.int .u8 c.b.half,.int .u8 c.b.sec,.int .i64 c.b.cyc,.int .i64 c.n]) T_agg_26 T_size_26 rfl (hS.ptAt (i:=2) rfl) (Nat.le_of_ble_eq_true rfl) rfl) ?_
  clear hf a; intro a hf
  refine O.callR hf rfl rfl rfl (RunE.call (av:=#[.agg #[.int .u8 c.kind,.int .i64 c.a.num,.int .i64 c.a.yr,.int .u8 c.a.half,.int .u8 c.a.sec,.int .i64 c.a.cyc,.int .i64 c.b.num,.int .i64 c.b.yr,.int .u8 c.b.half,.int .u8 c.b.sec,.int .i64 c.b.cyc,.int .i64 c.n]]) C_ok_25 rfl rfl rfl) (checkC_ok c _ (hS.bptO (i:=0) rfl) hc) ?_
  clear hf a
  rintro _ w3 hS1 a hf
  replace hf:Fr a _ _ ((24,.int .i64 0)::_):=hf
  replace hS:=(hS.call hS1).eqM (N:=[stA 95 24 bm kvs gs,sl 4 1 uv us.length (bools us),pt b_c1 (.cells #[.int .u8 c.kind,.int .i64 c.a.num,.int .i64 c.a.yr,.int .u8 c.a.half,.int .u8 c.a.sec,.int .i64 c.a.cyc,.int .i64 c.b.num,.int .i64 c.b.yr,.int .u8 c.b.half,.int .u8 c.b.sec,.int .i64 c.b.cyc,.int .i64 c.n] 26 (0,0))]) rfl
  clear hS1
  refine O.val hf rfl rfl rfl (RunV.assign rfl) ?_
  clear hf a; intro a hf
  refine O.nil ?_
  refine k_seq ?_
  replace hf:Fr a 43 [] [(0,vl),(3,.pointer (some ⟨b_c1,0,none⟩)),(4,.slice none 0 0),(5,.int .i64 0),(9,.int .i64 0)]:=hf.to ⟨rfl,rfl,rfl,rfl,rfl,trivial⟩
  refine W.seq ?_
  refine W.regionL (l:=[0,1]) rfl ?_
  refine O.val hf rfl rfl rfl (RunV.move rfl) ?_
  clear hf a; intro a hf
  refine O.val hf rfl rfl rfl (RunV.toB (c:=false) (RunV.neq rfl rfl) (by decide)) ?_
  clear hf a; intro a hf
  refine O.nil ?_
  refine k_seq ?_
  replace hf:Fr a 43 [] [(0,vl),(3,.pointer (some ⟨b_c1,0,none⟩)),(4,.slice none 0 0),(5,.int .i64 0),(9,.int .i64 0),(26,.bool false)]:=hf.to ⟨rfl,rfl,rfl,rfl,rfl,rfl,trivial⟩
  refine W.if_ff hf rfl ?_
  refine W.skip ?_
  refine k_seq ?_
  replace hf:Fr a 43 [] [(0,vl),(3,.pointer (some ⟨b_c1,0,none⟩)),(4,.slice none 0 0),(5,.int .i64 0)]:=hf.to ⟨rfl,rfl,rfl,rfl,trivial⟩
  refine W.seq ?_
  have hf1:Fr a 43 [] []:=hf.to trivial
  replace hf:Fr a 43 [] [(0,vl),(3,.pointer (some ⟨b_c1,0,none⟩)),(4,.slice none 0 0),(5,.int .i64 0)]:=hf.to ⟨rfl,rfl,rfl,rfl,trivial⟩
  replace hS:=hS.drew
  replace hS:=hS.emp
  refine W.drawC (γ:=(Nat) × (Value) × (Value)) (L0:=[(0,vl),(3,.pointer (some ⟨b_c1,0,none⟩)),(4,.slice none 0 0),(5,.int .i64 0)]) (L1:=[]) (0,default,default) [1,4] [3] [0,2,5] (fun i=>match i with | 1=>[0] | 3=>[2] | 4=>[1,3] | 5=>[0,1,2,3,4] | _=>[]) (fun i=>match i with | 4=>[1,3] | 5=>[1,4,3] | _=>[]) (fun i=>match i with | 0=>[1,4] | 1=>[4] | 2=>[4] | 3=>[4] | _=>[]) (fun i=>match i with | 4=>[3] | 5=>[3] | _=>[]) (fun i=>match i with | 1=>[4,5] | 3=>[4,5] | 4=>[5] | _=>[]) (fun _=>[]) (fun i=>match i with | 4=>1 | 5=>2 | _=>0) (fun i=>match i with | 1=>1 | 2=>1 | 3=>1 | 4=>2 | 5=>2 | _=>0) (fun (g:(Nat) × (Value) × (Value)) j=>match g,j with | ⟨b_s4,cv,v6⟩,0=>vl | ⟨b_s4,cv,v6⟩,1=>cv | ⟨b_s4,cv,v6⟩,2=>.agg #[.int .u8 c.kind,.int .i64 c.a.num,.int .i64 c.a.yr,.int .u8 c.a.half,.int .u8 c.a.sec,.int .i64 c.a.cyc,.int .i64 c.b.num,.int .i64 c.b.yr,.int .u8 c.b.half,.int .u8 c.b.sec,.int .i64 c.b.cyc,.int .i64 c.n] | ⟨b_s4,cv,v6⟩,3=>.slice (some ⟨b_s4,0,none⟩) 1 1 | ⟨b_s4,cv,v6⟩,4=>v6 | ⟨b_s4,cv,v6⟩,5=>v6 | _,_=>undef) (fun k s (g:(Nat) × (Value) × (Value)) w=>match k,g with | 0,⟨b_s4,cv,v6⟩=>St w0 w noX [ordA,rdv 12 vl l.length (encs eC l)] [condA (s 3) (pt b_s4 (.cells #[.int .u8 c.kind,.int .i64 c.a.num,.int .i64 c.a.yr,.int .u8 c.a.half,.int .u8 c.a.sec,.int .i64 c.a.cyc,.int .i64 c.b.num,.int .i64 c.b.yr,.int .u8 c.b.half,.int .u8 c.b.sec,.int .i64 c.b.cyc,.int .i64 c.n] 26 (0,0))),stA 95 24 bm kvs gs,sl 4 1 uv us.length (bools us),pt b_c1 (.cells #[.int .u8 c.kind,.int .i64 c.a.num,.int .i64 c.a.yr,.int .u8 c.a.half,.int .u8 c.a.sec,.int .i64 c.a.cyc,.int .i64 c.b.num,.int .i64 c.b.yr,.int .u8 c.b.half,.int .u8 c.b.sec,.int .i64 c.b.cyc,.int .i64 c.n] 26 (0,0))] | 1,⟨b_s4,cv,v6⟩=>St w0 w noX [ordA,rdv 12 vl l.length (encs eC l)] [sl 26 12 cv l.length (encs eC l),condA (s 3) (pt b_s4 (.cells #[.int .u8 c.kind,.int .i64 c.a.num,.int .i64 c.a.yr,.int .u8 c.a.half,.int .u8 c.a.sec,.int .i64 c.a.cyc,.int .i64 c.b.num,.int .i64 c.b.yr,.int .u8 c.b.half,.int .u8 c.b.sec,.int .i64 c.b.cyc,.int .i64 c.n] 26 (0,0))),stA 95 24 bm kvs gs,sl 4 1 uv us.length (bools us),pt b_c1 (.cells #[.int .u8 c.kind,.int .i64 c.a.num,.int .i64 c.a.yr,.int .u8 c.a.half,.int .u8 c.a.sec,.int .i64 c.a.cyc,.int .i64 c.b.num,.int .i64 c.b.yr,.int .u8 c.b.half,.int .u8 c.b.sec,.int .i64 c.b.cyc,.int .i64 c.n] 26 (0,0))] | _,⟨b_s4,cv,v6⟩=>St w0 w noX [ordA,rdv 12 vl l.length (encs eC l)] [sl 26 12 v6 ((l++[c]).length) (encs eC (l++[c])),pt b_s4 (.cells #[.int .u8 c.kind,.int .i64 c.a.num,.int .i64 c.a.yr,.int .u8 c.a.half,.int .u8 c.a.sec,.int .i64 c.a.cyc,.int .i64 c.b.num,.int .i64 c.b.yr,.int .u8 c.b.half,.int .u8 c.b.sec,.int .i64 c.b.cyc,.int .i64 c.n] 26 (0,0)),stA 95 24 bm kvs gs,sl 4 1 uv us.length (bools us),pt b_c1 (.cells #[.int .u8 c.kind,.int .i64 c.a.num,.int .i64 c.a.yr,.int .u8 c.a.half,.int .u8 c.a.sec,.int .i64 c.a.cyc,.int .i64 c.b.num,.int .i64 c.b.yr,.int .u8 c.b.half,.int .u8 c.b.sec,.int .i64 c.b.cyc,.int .i64 c.n] 26 (0,0))]) P_mixed (by kernel_rfl) (by kernel_rfl) (by kernel_rfl) hf hf1 hS ?_ ?_ ?_ ?_
  · clear hf hf1 hS
    refine ⟨?_,?_,?_,trivial⟩
    · intro k s g w h1_ h2_ hsp hD a hf
      obtain ⟨b_s4,cv,v6⟩:=g
      rcases k with _ | k
      · have hS:St w0 w noX [ordA,rdv 12 vl l.length (encs eC l)] [condA (s 3) (pt b_s4 (.cells #[.int .u8 c.kind,.int .i64 c.a.num,.int .i64 c.a.yr,.int .u8 c.a.half,.int .u8 c.a.sec,.int .i64 c.a.cyc,.int .i64 c.b.num,.int .i64 c.b.yr,.int .u8 c.b.half,.int .u8 c.b.sec,.int .i64 c.b.cyc,.int .i64 c.n] 26 (0,0))),stA 95 24 bm kvs gs,sl 4 1 uv us.length (bools us),pt b_c1 (.cells #[.int .u8 c.kind,.int .i64 c.a.num,.int .i64 c.a.yr,.int .u8 c.a.half,.int .u8 c.a.sec,.int .i64 c.a.cyc,.int .i64 c.b.num,.int .i64 c.b.yr,.int .u8 c.b.half,.int .u8 c.b.sec,.int .i64 c.b.cyc,.int .i64 c.n] 26 (0,0))]:=hD;
        replace hf:Fr a 43 [] [(0,vl),(3,.pointer (some ⟨b_c1,0,none⟩)),(4,.slice none 0 0),(5,.int .i64 0)]:=hf
        refine O.val hf rfl rfl rfl (RunV.move rfl) ?_
        clear hf a; intro a hf
        exact O.nil ⟨rfl,hf.to trivial,(fun d hd=>by cases (show some 28=some d from hd); exact hf.get _ _ rfl),hD⟩
      · exact absurd h2_ (by simp)
    · intro k s g w h1_ h2_ hsp hD a hf
      obtain ⟨b_s4,cv,v6⟩:=g
      rcases k with _ | _ | k
      · have hS:St w0 w noX [ordA,rdv 12 vl l.length (encs eC l)] [condA (s 3) (pt b_s4 (.cells #[.int .u8 c.kind,.int .i64 c.a.num,.int .i64 c.a.yr,.int .u8 c.a.half,.int .u8 c.a.sec,.int .i64 c.a.cyc,.int .i64 c.b.num,.int .i64 c.b.yr,.int .u8 c.b.half,.int .u8 c.b.sec,.int .i64 c.b.cyc,.int .i64 c.n] 26 (0,0))),stA 95 24 bm kvs gs,sl 4 1 uv us.length (bools us),pt b_c1 (.cells #[.int .u8 c.kind,.int .i64 c.a.num,.int .i64 c.a.yr,.int .u8 c.a.half,.int .u8 c.a.sec,.int .i64 c.a.cyc,.int .i64 c.b.num,.int .i64 c.b.yr,.int .u8 c.b.half,.int .u8 c.b.sec,.int .i64 c.b.cyc,.int .i64 c.n] 26 (0,0))]:=hD;
        replace hf:Fr a 43 [] [(0,vl),(3,.pointer (some ⟨b_c1,0,none⟩)),(4,.slice none 0 0),(5,.int .i64 0)]:=hf
        refine O.val hf rfl rfl rfl (RunV.loadN (cs':=#[.int .u8 c.kind,.int .i64 c.a.num,.int .i64 c.a.yr,.int .u8 c.a.half,.int .u8 c.a.sec,.int .i64 c.a.cyc,.int .i64 c.b.num,.int .i64 c.b.yr,.int .u8 c.b.half,.int .u8 c.b.sec,.int .i64 c.b.cyc,.int .i64 c.n]) T_agg_26 T_size_26 rfl (hS.ptAt (i:=3) rfl) (Nat.le_of_ble_eq_true rfl) rfl) ?_
        clear hf a; intro a hf
        exact O.nil ⟨rfl,hf.to trivial,(fun d hd=>by cases (show some 30=some d from hd); exact hf.get _ _ rfl),hD⟩
      · have hS:St w0 w noX [ordA,rdv 12 vl l.length (encs eC l)] [sl 26 12 cv l.length (encs eC l),condA (s 3) (pt b_s4 (.cells #[.int .u8 c.kind,.int .i64 c.a.num,.int .i64 c.a.yr,.int .u8 c.a.half,.int .u8 c.a.sec,.int .i64 c.a.cyc,.int .i64 c.b.num,.int .i64 c.b.yr,.int .u8 c.b.half,.int .u8 c.b.sec,.int .i64 c.b.cyc,.int .i64 c.n] 26 (0,0))),stA 95 24 bm kvs gs,sl 4 1 uv us.length (bools us),pt b_c1 (.cells #[.int .u8 c.kind,.int .i64 c.a.num,.int .i64 c.a.yr,.int .u8 c.a.half,.int .u8 c.a.sec,.int .i64 c.a.cyc,.int .i64 c.b.num,.int .i64 c.b.yr,.int .u8 c.b.half,.int .u8 c.b.sec,.int .i64 c.b.cyc,.int .i64 c.n] 26 (0,0))]:=hD;
        replace hf:Fr a 43 [] [(0,vl),(3,.pointer (some ⟨b_c1,0,none⟩)),(4,.slice none 0 0),(5,.int .i64 0)]:=hf
        refine O.val hf rfl rfl rfl (RunV.loadN (cs':=#[.int .u8 c.kind,.int .i64 c.a.num,.int .i64 c.a.yr,.int .u8 c.a.half,.int .u8 c.a.sec,.int .i64 c.a.cyc,.int .i64 c.b.num,.int .i64 c.b.yr,.int .u8 c.b.half,.int .u8 c.b.sec,.int .i64 c.b.cyc,.int .i64 c.n]) T_agg_26 T_size_26 rfl (hS.ptAt (i:=4) rfl) (Nat.le_of_ble_eq_true rfl) rfl) ?_
        clear hf a; intro a hf
        exact O.nil ⟨rfl,hf.to trivial,(fun d hd=>by cases (show some 30=some d from hd); exact hf.get _ _ rfl),hD⟩
      · exact absurd h2_ (by simp)
    · intro k s g w h1_ h2_ hsp hD a hf
      obtain ⟨b_s4,cv,v6⟩:=g
      rcases k with _ | _ | _ | k
      · exact absurd h1_ (by decide)
      · exact absurd h1_ (by decide)
      · have ha_:s 3=true:=hsp 3 (by simp)
        have hS:St w0 w noX [ordA,rdv 12 vl l.length (encs eC l)] [sl 26 12 v6 ((l++[c]).length) (encs eC (l++[c])),pt b_s4 (.cells #[.int .u8 c.kind,.int .i64 c.a.num,.int .i64 c.a.yr,.int .u8 c.a.half,.int .u8 c.a.sec,.int .i64 c.a.cyc,.int .i64 c.b.num,.int .i64 c.b.yr,.int .u8 c.b.half,.int .u8 c.b.sec,.int .i64 c.b.cyc,.int .i64 c.n] 26 (0,0)),stA 95 24 bm kvs gs,sl 4 1 uv us.length (bools us),pt b_c1 (.cells #[.int .u8 c.kind,.int .i64 c.a.num,.int .i64 c.a.yr,.int .u8 c.a.half,.int .u8 c.a.sec,.int .i64 c.a.cyc,.int .i64 c.b.num,.int .i64 c.b.yr,.int .u8 c.b.half,.int .u8 c.b.sec,.int .i64 c.b.cyc,.int .i64 c.n] 26 (0,0))]:=hD;
        replace hS:St w0 w noX [ordA,rdv 12 vl l.length (encs eC l)] [sl 26 12 v6 ((l++[c]).length) (encs eC (l++[c])),pt b_s4 (.cells #[.int .u8 c.kind,.int .i64 c.a.num,.int .i64 c.a.yr,.int .u8 c.a.half,.int .u8 c.a.sec,.int .i64 c.a.cyc,.int .i64 c.b.num,.int .i64 c.b.yr,.int .u8 c.b.half,.int .u8 c.b.sec,.int .i64 c.b.cyc,.int .i64 c.n] 26 (0,0)),stA 95 24 bm kvs gs,sl 4 1 uv us.length (bools us),pt b_c1 (.cells #[.int .u8 c.kind,.int .i64 c.a.num,.int .i64 c.a.yr,.int .u8 c.a.half,.int .u8 c.a.sec,.int .i64 c.a.cyc,.int .i64 c.b.num,.int .i64 c.b.yr,.int .u8 c.b.half,.int .u8 c.b.sec,.int .i64 c.b.cyc,.int .i64 c.n] 26 (0,0))]:=hS
        replace hf:Fr a 43 [] [(28,vl),(29,cv),(30,.agg #[.int .u8 c.kind,.int .i64 c.a.num,.int .i64 c.a.yr,.int .u8 c.a.half,.int .u8 c.a.sec,.int .i64 c.a.cyc,.int .i64 c.b.num,.int .i64 c.b.yr,.int .u8 c.b.half,.int .u8 c.b.sec,.int .i64 c.b.cyc,.int .i64 c.n]),(31,.slice (some ⟨b_s4,0,none⟩) 1 1),(32,v6),(0,vl),(3,.pointer (some ⟨b_c1,0,none⟩)),(4,.slice none 0 0),(5,.int .i64 0)]:=hf
        refine O.val hf rfl rfl rfl (RunV.assign rfl) ?_
        clear hf a; intro a hf
        exact O.nil ⟨rfl,hf.to trivial,(fun d hd=>by cases (show some 10=some d from hd); exact hf.get _ _ rfl),hD⟩
      · exact absurd h2_ (by simp)
  · clear hf hf1 hS
    refine ⟨?_,?_,trivial⟩
    · intro s g w hsp hD a hf
      obtain ⟨b_s4,cv,v6⟩:=g
      have hS:St w0 w noX [ordA,rdv 12 vl l.length (encs eC l)] [condA (s 3) (pt b_s4 (.cells #[.int .u8 c.kind,.int .i64 c.a.num,.int .i64 c.a.yr,.int .u8 c.a.half,.int .u8 c.a.sec,.int .i64 c.a.cyc,.int .i64 c.b.num,.int .i64 c.b.yr,.int .u8 c.b.half,.int .u8 c.b.sec,.int .i64 c.b.cyc,.int .i64 c.n] 26 (0,0))),stA 95 24 bm kvs gs,sl 4 1 uv us.length (bools us),pt b_c1 (.cells #[.int .u8 c.kind,.int .i64 c.a.num,.int .i64 c.a.yr,.int .u8 c.a.half,.int .u8 c.a.sec,.int .i64 c.a.cyc,.int .i64 c.b.num,.int .i64 c.b.yr,.int .u8 c.b.half,.int .u8 c.b.sec,.int .i64 c.b.cyc,.int .i64 c.n] 26 (0,0))]:=hD;
      replace hf:Fr a 43 [] [(28,vl),(0,vl),(3,.pointer (some ⟨b_c1,0,none⟩)),(4,.slice none 0 0),(5,.int .i64 0)]:=hf
      clear hD
      refine O.callR hf rfl rfl rfl (RunE.call (av:=#[vl]) C_ok_33 rfl rfl rfl) (cloneC_spec vl l _ hfit (hS.rdAt (j:=1) rfl) (by omega)) ?_
      clear hf a
      rintro cv w7 hS1 a hf
      replace hf:Fr a _ _ ((29,cv)::_):=hf
      replace hS:=(hS.call hS1).eqM (N:=[sl 26 12 cv l.length (encs eC l),condA (s 3) (pt b_s4 (.cells #[.int .u8 c.kind,.int .i64 c.a.num,.int .i64 c.a.yr,.int .u8 c.a.half,.int .u8 c.a.sec,.int .i64 c.a.cyc,.int .i64 c.b.num,.int .i64 c.b.yr,.int .u8 c.b.half,.int .u8 c.b.sec,.int .i64 c.b.cyc,.int .i64 c.n] 26 (0,0))),stA 95 24 bm kvs gs,sl 4 1 uv us.length (bools us),pt b_c1 (.cells #[.int .u8 c.kind,.int .i64 c.a.num,.int .i64 c.a.yr,.int .u8 c.a.half,.int .u8 c.a.sec,.int .i64 c.a.cyc,.int .i64 c.b.num,.int .i64 c.b.yr,.int .u8 c.b.half,.int .u8 c.b.sec,.int .i64 c.b.cyc,.int .i64 c.n] 26 (0,0))]) rfl
      clear hS1
      exact O.nil ⟨rfl,(b_s4,cv,v6),hf.to trivial,(fun d hd=>by cases (show some 29=some d from hd); exact hf.get _ _ rfl),(fun j_ hj_ ha_=>match j_,hj_,ha_ with | 0,hj_,ha_=>rfl | 1,hj_,ha_=>absurd rfl hj_ | 2,hj_,ha_=>rfl | 3,hj_,ha_=>rfl | 4,hj_,ha_=>absurd ha_ (by decide) | 5,hj_,ha_=>absurd ha_ (by decide) | _+6,_,_=>rfl),hS⟩
    · intro s g w hsp hD a hf
      obtain ⟨b_s4,cv,v6⟩:=g
      have ha_:s 3=true:=hsp 3 (by simp)
      have hS:St w0 w noX [ordA,rdv 12 vl l.length (encs eC l)] [sl 26 12 cv l.length (encs eC l),condA (s 3) (pt b_s4 (.cells #[.int .u8 c.kind,.int .i64 c.a.num,.int .i64 c.a.yr,.int .u8 c.a.half,.int .u8 c.a.sec,.int .i64 c.a.cyc,.int .i64 c.b.num,.int .i64 c.b.yr,.int .u8 c.b.half,.int .u8 c.b.sec,.int .i64 c.b.cyc,.int .i64 c.n] 26 (0,0))),stA 95 24 bm kvs gs,sl 4 1 uv us.length (bools us),pt b_c1 (.cells #[.int .u8 c.kind,.int .i64 c.a.num,.int .i64 c.a.yr,.int .u8 c.a.half,.int .u8 c.a.sec,.int .i64 c.a.cyc,.int .i64 c.b.num,.int .i64 c.b.yr,.int .u8 c.b.half,.int .u8 c.b.sec,.int .i64 c.b.cyc,.int .i64 c.n] 26 (0,0))]:=hD; rw [ha_] at hS
      replace hS:St w0 w noX [ordA,rdv 12 vl l.length (encs eC l)] [sl 26 12 cv l.length (encs eC l),pt b_s4 (.cells #[.int .u8 c.kind,.int .i64 c.a.num,.int .i64 c.a.yr,.int .u8 c.a.half,.int .u8 c.a.sec,.int .i64 c.a.cyc,.int .i64 c.b.num,.int .i64 c.b.yr,.int .u8 c.b.half,.int .u8 c.b.sec,.int .i64 c.b.cyc,.int .i64 c.n] 26 (0,0)),stA 95 24 bm kvs gs,sl 4 1 uv us.length (bools us),pt b_c1 (.cells #[.int .u8 c.kind,.int .i64 c.a.num,.int .i64 c.a.yr,.int .u8 c.a.half,.int .u8 c.a.sec,.int .i64 c.a.cyc,.int .i64 c.b.num,.int .i64 c.b.yr,.int .u8 c.b.half,.int .u8 c.b.sec,.int .i64 c.b.cyc,.int .i64 c.n] 26 (0,0))]:=hS
      replace hf:Fr a 43 [] [(29,cv),(31,.slice (some ⟨b_s4,0,none⟩) 1 1),(0,vl),(3,.pointer (some ⟨b_c1,0,none⟩)),(4,.slice none 0 0),(5,.int .i64 0)]:=hf
      clear hD
      refine O.append1 (j:=0) (jj:=1) hf hS rfl rfl T_elem_22 T_size_26 T_bytes_26 T_zero_26 rfl rfl rfl rfl rfl rfl rfl rfl (by unfold maxLen; omega) (by omega) ?_
      clear hf hS a; intro v8 w a hS hf
      replace hS:=hS.eqM (N:=[sl 26 12 v8 (l.length+1) (encs eC l++[.int .u8 c.kind,.int .i64 c.a.num,.int .i64 c.a.yr,.int .u8 c.a.half,.int .u8 c.a.sec,.int .i64 c.a.cyc,.int .i64 c.b.num,.int .i64 c.b.yr,.int .u8 c.b.half,.int .u8 c.b.sec,.int .i64 c.b.cyc,.int .i64 c.n]),pt b_s4 (.cells #[.int .u8 c.kind,.int .i64 c.a.num,.int .i64 c.a.yr,.int .u8 c.a.half,.int .u8 c.a.sec,.int .i64 c.a.cyc,.int .i64 c.b.num,.int .i64 c.b.yr,.int .u8 c.b.half,.int .u8 c.b.sec,.int .i64 c.b.cyc,.int .i64 c.n] 26 (0,0)),stA 95 24 bm kvs gs,sl 4 1 uv us.length (bools us),pt b_c1 (.cells #[.int .u8 c.kind,.int .i64 c.a.num,.int .i64 c.a.yr,.int .u8 c.a.half,.int .u8 c.a.sec,.int .i64 c.a.cyc,.int .i64 c.b.num,.int .i64 c.b.yr,.int .u8 c.b.half,.int .u8 c.b.sec,.int .i64 c.b.cyc,.int .i64 c.n] 26 (0,0))]) rfl
      replace hS:=hS.reE (i:=0) (M':=[sl 26 12 v8 ((l++[c]).length) (encs eC (l++[c])),pt b_s4 (.cells #[.int .u8 c.kind,.int .i64 c.a.num,.int .i64 c.a.yr,.int .u8 c.a.half,.int .u8 c.a.sec,.int .i64 c.a.cyc,.int .i64 c.b.num,.int .i64 c.b.yr,.int .u8 c.b.half,.int .u8 c.b.sec,.int .i64 c.b.cyc,.int .i64 c.n] 26 (0,0)),stA 95 24 bm kvs gs,sl 4 1 uv us.length (bools us),pt b_c1 (.cells #[.int .u8 c.kind,.int .i64 c.a.num,.int .i64 c.a.yr,.int .u8 c.a.half,.int .u8 c.a.sec,.int .i64 c.a.cyc,.int .i64 c.b.num,.int .i64 c.b.yr,.int .u8 c.b.half,.int .u8 c.b.sec,.int .i64 c.b.cyc,.int .i64 c.n] 26 (0,0))]) rfl (sl_snoc (enc:=eC) (l:=l) (x:=c)) rfl
      exact O.nil ⟨rfl,(b_s4,cv,v8),hf.to trivial,(fun d hd=>by cases (show some 32=some d from hd); exact hf.get _ _ rfl),(fun j_ hj_ ha_=>match j_,hj_,ha_ with | 0,hj_,ha_=>rfl | 1,hj_,ha_=>rfl | 2,hj_,ha_=>rfl | 3,hj_,ha_=>rfl | 4,hj_,ha_=>absurd rfl hj_ | 5,hj_,ha_=>absurd ha_ (by decide) | _+6,_,_=>rfl),hS⟩
  · clear hf hf1 hS
    refine ⟨?_,trivial⟩
    intro k s g w h1_ h2_ hs0 hD a hf
    obtain ⟨b_s4,cv,v6⟩:=g
    rcases k with _ | _ | k
    · have hS:St w0 w noX [ordA,rdv 12 vl l.length (encs eC l)] [condA (s 3) (pt b_s4 (.cells #[.int .u8 c.kind,.int .i64 c.a.num,.int .i64 c.a.yr,.int .u8 c.a.half,.int .u8 c.a.sec,.int .i64 c.a.cyc,.int .i64 c.b.num,.int .i64 c.b.yr,.int .u8 c.b.half,.int .u8 c.b.sec,.int .i64 c.b.cyc,.int .i64 c.n] 26 (0,0))),stA 95 24 bm kvs gs,sl 4 1 uv us.length (bools us),pt b_c1 (.cells #[.int .u8 c.kind,.int .i64 c.a.num,.int .i64 c.a.yr,.int .u8 c.a.half,.int .u8 c.a.sec,.int .i64 c.a.cyc,.int .i64 c.b.num,.int .i64 c.b.yr,.int .u8 c.b.half,.int .u8 c.b.sec,.int .i64 c.b.cyc,.int .i64 c.n] 26 (0,0))]:=hD; clear hD
      replace hf:Fr a 43 [] [(30,.agg #[.int .u8 c.kind,.int .i64 c.a.num,.int .i64 c.a.yr,.int .u8 c.a.half,.int .u8 c.a.sec,.int .i64 c.a.cyc,.int .i64 c.b.num,.int .i64 c.b.yr,.int .u8 c.b.half,.int .u8 c.b.sec,.int .i64 c.b.cyc,.int .i64 c.n]),(0,vl),(3,.pointer (some ⟨b_c1,0,none⟩)),(4,.slice none 0 0),(5,.int .i64 0)]:=hf
      refine O.buildC (j:=0) (cs':=#[.int .u8 c.kind,.int .i64 c.a.num,.int .i64 c.a.yr,.int .u8 c.a.half,.int .u8 c.a.sec,.int .i64 c.a.cyc,.int .i64 c.b.num,.int .i64 c.b.yr,.int .u8 c.b.half,.int .u8 c.b.sec,.int .i64 c.b.cyc,.int .i64 c.n]) (zs:=#[.int .u8 0,.int .i64 0,.int .i64 0,.int .u8 0,.int .u8 0,.int .i64 0,.int .i64 0,.int .i64 0,.int .u8 0,.int .u8 0,.int .i64 0,.int .i64 0]) hf hS rfl hs0 rfl rfl T_elem_22 T_size_26 T_zero_26 rfl rfl (by kernel_rfl) rfl (by kernel_rfl) ?_; clear hf hS a; intro b_s9 w a hS hf
      exact O.nil ⟨rfl,(b_s9,cv,v6),hf.to trivial,(fun d hd=>by cases (show some 31=some d from hd); exact hf.get _ _ rfl),(fun j_ hj_ ha_=>match j_,hj_,ha_ with | 0,hj_,ha_=>rfl | 1,hj_,ha_=>rfl | 2,hj_,ha_=>rfl | 3,hj_,ha_=>absurd rfl hj_ | 4,hj_,ha_=>absurd ha_ (by decide) | 5,hj_,ha_=>absurd ha_ (by decide) | _+6,_,_=>rfl),hS⟩
    · have hS:St w0 w noX [ordA,rdv 12 vl l.length (encs eC l)] [sl 26 12 cv l.length (encs eC l),condA (s 3) (pt b_s4 (.cells #[.int .u8 c.kind,.int .i64 c.a.num,.int .i64 c.a.yr,.int .u8 c.a.half,.int .u8 c.a.sec,.int .i64 c.a.cyc,.int .i64 c.b.num,.int .i64 c.b.yr,.int .u8 c.b.half,.int .u8 c.b.sec,.int .i64 c.b.cyc,.int .i64 c.n] 26 (0,0))),stA 95 24 bm kvs gs,sl 4 1 uv us.length (bools us),pt b_c1 (.cells #[.int .u8 c.kind,.int .i64 c.a.num,.int .i64 c.a.yr,.int .u8 c.a.half,.int .u8 c.a.sec,.int .i64 c.a.cyc,.int .i64 c.b.num,.int .i64 c.b.yr,.int .u8 c.b.half,.int .u8 c.b.sec,.int .i64 c.b.cyc,.int .i64 c.n] 26 (0,0))]:=hD; clear hD
      replace hf:Fr a 43 [] [(30,.agg #[.int .u8 c.kind,.int .i64 c.a.num,.int .i64 c.a.yr,.int .u8 c.a.half,.int .u8 c.a.sec,.int .i64 c.a.cyc,.int .i64 c.b.num,.int .i64 c.b.yr,.int .u8 c.b.half,.int .u8 c.b.sec,.int .i64 c.b.cyc,.int .i64 c.n]),(0,vl),(3,.pointer (some ⟨b_c1,0,none⟩)),(4,.slice none 0 0),(5,.int .i64 0)]:=hf
      refine O.buildC (j:=1) (cs':=#[.int .u8 c.kind,.int .i64 c.a.num,.int .i64 c.a.yr,.int .u8 c.a.half,.int .u8 c.a.sec,.int .i64 c.a.cyc,.int .i64 c.b.num,.int .i64 c.b.yr,.int .u8 c.b.half,.int .u8 c.b.sec,.int .i64 c.b.cyc,.int .i64 c.n]) (zs:=#[.int .u8 0,.int .i64 0,.int .i64 0,.int .u8 0,.int .u8 0,.int .i64 0,.int .i64 0,.int .i64 0,.int .u8 0,.int .u8 0,.int .i64 0,.int .i64 0]) hf hS rfl hs0 rfl rfl T_elem_22 T_size_26 T_zero_26 rfl rfl (by kernel_rfl) rfl (by kernel_rfl) ?_; clear hf hS a; intro b_s10 w a hS hf
      exact O.nil ⟨rfl,(b_s10,cv,v6),hf.to trivial,(fun d hd=>by cases (show some 31=some d from hd); exact hf.get _ _ rfl),(fun j_ hj_ ha_=>match j_,hj_,ha_ with | 0,hj_,ha_=>rfl | 1,hj_,ha_=>rfl | 2,hj_,ha_=>rfl | 3,hj_,ha_=>absurd rfl hj_ | 4,hj_,ha_=>absurd ha_ (by decide) | 5,hj_,ha_=>absurd ha_ (by decide) | _+6,_,_=>rfl),hS⟩
    · exact absurd h2_ (by simp)
  clear hf hf1 hS; intro s g a w hs_ hf hD
  obtain ⟨b_s4,cv,v6⟩:=g
  have ha_:s 3=true:=hs_ 3 (by simp)
  have hS:St w0 w noX [ordA,rdv 12 vl l.length (encs eC l)] [sl 26 12 v6 ((l++[c]).length) (encs eC (l++[c])),pt b_s4 (.cells #[.int .u8 c.kind,.int .i64 c.a.num,.int .i64 c.a.yr,.int .u8 c.a.half,.int .u8 c.a.sec,.int .i64 c.a.cyc,.int .i64 c.b.num,.int .i64 c.b.yr,.int .u8 c.b.half,.int .u8 c.b.sec,.int .i64 c.b.cyc,.int .i64 c.n] 26 (0,0)),stA 95 24 bm kvs gs,sl 4 1 uv us.length (bools us),pt b_c1 (.cells #[.int .u8 c.kind,.int .i64 c.a.num,.int .i64 c.a.yr,.int .u8 c.a.half,.int .u8 c.a.sec,.int .i64 c.a.cyc,.int .i64 c.b.num,.int .i64 c.b.yr,.int .u8 c.b.half,.int .u8 c.b.sec,.int .i64 c.b.cyc,.int .i64 c.n] 26 (0,0))]:=hD; clear hD
  replace hf:Fr a 43 [] [(28,vl),(29,cv),(30,.agg #[.int .u8 c.kind,.int .i64 c.a.num,.int .i64 c.a.yr,.int .u8 c.a.half,.int .u8 c.a.sec,.int .i64 c.a.cyc,.int .i64 c.b.num,.int .i64 c.b.yr,.int .u8 c.b.half,.int .u8 c.b.sec,.int .i64 c.b.cyc,.int .i64 c.n]),(31,.slice (some ⟨b_s4,0,none⟩) 1 1),(32,v6),(10,v6),(0,vl),(3,.pointer (some ⟨b_c1,0,none⟩)),(4,.slice none 0 0),(5,.int .i64 0)]:=hf
  refine k_seq ?_
  replace hf:Fr a 43 [] [(4,.slice none 0 0),(5,.int .i64 0),(10,v6)]:=hf.to ⟨rfl,rfl,rfl,trivial⟩
  refine W.seq ?_
  refine W.seq ?_
  refine W.regionL (l:=[0,1,2,3,4,5,6,7,8]) rfl ?_
  refine O.val hf rfl rfl rfl (RunV.move rfl) ?_
  clear hf a; intro a hf
  refine O.callR hf rfl rfl rfl (RunE.call (av:=#[v6]) C_ok_32 rfl rfl rfl) (history_err v6 (l++[c]) _ (hS.bptO (i:=0) rfl) (hS.slr (j:=0) rfl) (slOK.fit (hS.slAt (j:=0) rfl)) hm2) ?_
  clear hf a
  rintro _ w11 hS1 a hf
  replace hf:Fr a _ _ ((35,.tuple #[.map none,(.slice none 0 0),.int .i64 e])::_):=hf
  replace hS:=(hS.call hS1).eqM (N:=[sl 26 12 v6 ((l++[c]).length) (encs eC (l++[c])),pt b_s4 (.cells #[.int .u8 c.kind,.int .i64 c.a.num,.int .i64 c.a.yr,.int .u8 c.a.half,.int .u8 c.a.sec,.int .i64 c.a.cyc,.int .i64 c.b.num,.int .i64 c.b.yr,.int .u8 c.b.half,.int .u8 c.b.sec,.int .i64 c.b.cyc,.int .i64 c.n] 26 (0,0)),stA 95 24 bm kvs gs,sl 4 1 uv us.length (bools us),pt b_c1 (.cells #[.int .u8 c.kind,.int .i64 c.a.num,.int .i64 c.a.yr,.int .u8 c.a.half,.int .u8 c.a.sec,.int .i64 c.a.cyc,.int .i64 c.b.num,.int .i64 c.b.yr,.int .u8 c.b.half,.int .u8 c.b.sec,.int .i64 c.b.cyc,.int .i64 c.n] 26 (0,0))]) rfl
  clear hS1
  refine O.val hf rfl rfl rfl (RunV.move rfl) ?_
  clear hf a; intro a hf
  refine O.val hf rfl rfl rfl (RunV.extract rfl rfl) ?_
  clear hf a; intro a hf
  refine O.val hf rfl rfl rfl (RunV.extract rfl rfl) ?_
  clear hf a; intro a hf
  refine O.val hf rfl rfl rfl (RunV.extract rfl rfl) ?_
  clear hf a; intro a hf
  refine O.val hf rfl rfl rfl (RunV.assign rfl) ?_
  clear hf a; intro a hf
  refine O.val hf rfl rfl rfl (RunV.assign rfl) ?_
  clear hf a; intro a hf
  refine O.val hf rfl rfl rfl (RunV.assign rfl) ?_
  clear hf a; intro a hf
  refine O.nil ?_
  refine k_seq ?_
  replace hf:Fr a 43 [] [(4,.slice none 0 0),(5,.int .i64 0),(10,v6),(13,.int .i64 e)]:=hf.to ⟨rfl,rfl,rfl,rfl,trivial⟩
  refine W.seq ?_
  refine W.regionL (l:=[0,1]) rfl ?_
  refine O.val hf rfl rfl rfl (RunV.move rfl) ?_
  clear hf a; intro a hf
  refine O.val (v:=.bool (decide (e≠(0:Int)))) hf rfl rfl rfl (RunV.neq rfl rfl) ?_
  clear hf a; intro a hf
  refine O.nil ?_
  refine k_seq ?_
  replace hf:Fr a 43 [] [(4,.slice none 0 0),(5,.int .i64 0),(10,v6),(13,.int .i64 e),(40,.bool (decide (e≠(0:Int))))]:=hf.to ⟨rfl,rfl,rfl,rfl,rfl,trivial⟩
  refine W.ifdI hf rfl (fun h1=>?_) (fun h1=>?_)
  · refine W.seq ?_
    refine W.regionL (l:=[0,1,2]) rfl ?_
    refine O.val hf rfl rfl rfl (RunV.move rfl) ?_
    clear hf a; intro a hf
    refine O.val hf rfl rfl rfl (RunV.assign rfl) ?_
    clear hf a; intro a hf
    refine O.val hf rfl rfl rfl (RunV.assign rfl) ?_
    clear hf a; intro a hf
    refine O.nil ?_
    refine k_seq ?_
    replace hf:Fr a 43 [] [(4,.slice none 0 0),(5,.int .i64 e),(10,v6)]:=hf.to ⟨rfl,rfl,rfl,trivial⟩
    refine W.ret ?_
    refine k_then_ret ?_
    refine post2 hf rfl (ResOK.tmp rfl) (ResOK.tmp rfl) ?_
    first
      | exact absurd he0 h1
      | exact ⟨(),rfl,hS.sub (List.nil_sublist _) |>.noB⟩
  · refine W.skip ?_
    refine k_seq ?_
    replace hf:Fr a 43 [] [(4,.slice none 0 0),(5,.int .i64 0),(10,v6)]:=hf.to ⟨rfl,rfl,rfl,trivial⟩
    refine W.seq ?_
    refine W.regionL (l:=[0,1,2]) rfl ?_
    refine O.val hf rfl rfl rfl (RunV.move rfl) ?_
    clear hf a; intro a hf
    refine O.val hf rfl rfl rfl (RunV.assign rfl) ?_
    clear hf a; intro a hf
    refine O.val hf rfl rfl rfl (RunV.assign rfl) ?_
    clear hf a; intro a hf
    refine O.nil ?_
    refine k_seq ?_
    replace hf:Fr a 43 [] [(4,v6),(5,.int .i64 0)]:=hf.to ⟨rfl,rfl,trivial⟩
    refine W.ret ?_
    refine post2 hf rfl (ResOK.tmp rfl) (ResOK.tmp rfl) ?_
    first
      | exact absurd he0 h1
      | exact ⟨(),rfl,hS.sub (List.nil_sublist _) |>.noB⟩
set_option maxHeartbeats 400000 in
set_option maxRecDepth 4000 in
theorem apply_ok (vl:Value) (l:List Ch) (c:Ch) (w0:World) (hG:Lent w0 ordA) (hl:rdOK (hp w0) 12 vl l.length (encs eC l)) (hfit:vfit vl) (hz:l.length≤1000) (S:List PG) (us:List Bool) (hm:histM l=.ok (S,us)) (hc:okC c=true) (S2:List PG) (us2:List Bool) (hm2:histM (l++[c])=.ok (S2,us2)) :
    Ret Tryd.prog 11 #[vl,.agg #[.int .u8 c.kind,.int .i64 c.a.num,.int .i64 c.a.yr,.int .u8 c.a.half,.int .u8 c.a.sec,.int .i64 c.a.cyc,.int .i64 c.b.num,.int .i64 c.b.yr,.int .u8 c.b.half,.int .u8 c.b.sec,.int .i64 c.b.cyc,.int .i64 c.n]] w0 (G:=Value) (fun g=>.tuple #[g,.int .i64 0]) (fun g w=>St w0 w noX [] [slE 26 12 eC g (l++[c])]):=by
  refine ret_of_W (lv:=[vl,.agg #[.int .u8 c.kind,.int .i64 c.a.num,.int .i64 c.a.yr,.int .u8 c.a.half,.int .u8 c.a.sec,.int .i64 c.a.cyc,.int .i64 c.b.num,.int .i64 c.b.yr,.int .u8 c.b.half,.int .u8 c.b.sec,.int .i64 c.b.cyc,.int .i64 c.n]]) Tryd.func11 rfl rfl rfl (fun a hf=>?_)
  replace hf:Fr a 43 [] [(0,vl),(1,.agg #[.int .u8 c.kind,.int .i64 c.a.num,.int .i64 c.a.yr,.int .u8 c.a.half,.int .u8 c.a.sec,.int .i64 c.a.cyc,.int .i64 c.b.num,.int .i64 c.b.yr,.int .u8 c.b.half,.int .u8 c.b.sec,.int .i64 c.b.cyc,.int .i64 c.n])]:=hf
  have hS:St w0 w0 noX [ordA,rdv 12 vl l.length (encs eC l)] []:=((St.refl w0).lend0 hl).lendA hG
  have hlm:=hl.2.1
  unfold maxLen at hlm
  refine W.seq ?_
  refine W.regionL (l:=[0,1,2]) rfl ?_
  refine O.box (cs:=#[.int .u8 c.kind,.int .i64 c.a.num,.int .i64 c.a.yr,.int .u8 c.a.half,.int .u8 c.a.sec,.int .i64 c.a.cyc,.int .i64 c.b.num,.int .i64 c.b.yr,.int .u8 c.b.half,.int .u8 c.b.sec,.int .i64 c.b.cyc,.int .i64 c.n]) hf hS rfl rfl rfl rfl ?_
  clear hf hS a; intro b_c1 w a hbb_c1 hS hf
  refine O.val hf rfl rfl rfl (RunV.assign rfl) ?_
  clear hf a; intro a hf
  refine O.val hf rfl rfl rfl (RunV.assign rfl) ?_
  clear hf a; intro a hf
  refine O.nil ?_
  refine k_seq ?_
  replace hf:Fr a 43 [] [(0,vl),(3,.pointer (some ⟨b_c1,0,none⟩)),(4,.slice none 0 0),(5,.int .i64 0)]:=hf.to ⟨rfl,rfl,rfl,rfl,trivial⟩
  refine W.seq ?_
  refine W.seq ?_
  refine W.regionL (l:=[0,1,2,3,4,5,6,7,8]) rfl ?_
  refine O.val hf rfl rfl rfl (RunV.move rfl) ?_
  clear hf a; intro a hf
  refine O.callR hf rfl rfl rfl (RunE.call (av:=#[vl]) C_ok_32 rfl rfl rfl) (history_ok vl l _ (hS.bptO (i:=0) rfl) (hS.rdAt (j:=1) rfl) hfit hm) ?_
  clear hf a
  rintro ⟨uv,bm,kvs,gs⟩ w2 ⟨hS1,hI⟩ a hf
  replace hf:Fr a _ _ ((16,.tuple #[.map (some bm),uv,.int .i64 0])::_):=hf
  replace hS:=(hS.call hS1).eqM (N:=[stA 95 24 bm kvs gs,sl 4 1 uv us.length (bools us),pt b_c1 (.cells #[.int .u8 c.kind,.int .i64 c.a.num,.int .i64 c.a.yr,.int .u8 c.a.half,.int .u8 c.a.sec,.int .i64 c.a.cyc,.int .i64 c.b.num,.int .i64 c.b.yr,.int .u8 c.b.half,.int .u8 c.b.sec,.int .i64 c.b.cyc,.int .i64 c.n] 26 (0,0))]) rfl
  clear hS1
  refine O.val hf rfl rfl rfl (RunV.move rfl) ?_
  clear hf a; intro a hf
  refine O.val hf rfl rfl rfl (RunV.extract rfl rfl) ?_
  clear hf a; intro a hf
  refine O.val hf rfl rfl rfl (RunV.extract rfl rfl) ?_
  clear hf a; intro a hf
  refine O.val hf rfl rfl rfl (RunV.extract rfl rfl) ?_
  clear hf a; intro a hf
  refine O.val hf rfl rfl rfl (RunV.assign rfl) ?_
  clear hf a; intro a hf
  refine O.val hf rfl rfl rfl (RunV.assign rfl) ?_
  clear hf a; intro a hf
  refine O.val hf rfl rfl rfl (RunV.assign rfl) ?_
  clear hf a; intro a hf
  refine O.nil ?_
  refine k_seq ?_
  replace hf:Fr a 43 [] [(0,vl),(3,.pointer (some ⟨b_c1,0,none⟩)),(4,.slice none 0 0),(5,.int .i64 0),(8,.int .i64 0)]:=hf.to ⟨rfl,rfl,rfl,rfl,rfl,trivial⟩
  refine W.seq ?_
  refine W.regionL (l:=[0,1]) rfl ?_
  refine O.val hf rfl rfl rfl (RunV.move rfl) ?_
  clear hf a; intro a hf
  refine O.val hf rfl rfl rfl (RunV.toB (c:=false) (RunV.neq rfl rfl) (by decide)) ?_
  clear hf a; intro a hf
  refine O.nil ?_
  refine k_seq ?_
  replace hf:Fr a 43 [] [(0,vl),(3,.pointer (some ⟨b_c1,0,none⟩)),(4,.slice none 0 0),(5,.int .i64 0),(8,.int .i64 0),(21,.bool false)]:=hf.to ⟨rfl,rfl,rfl,rfl,rfl,rfl,trivial⟩
  refine W.if_ff hf rfl ?_
  refine W.skip ?_
  refine k_seq ?_
  replace hf:Fr a 43 [] [(0,vl),(3,.pointer (some ⟨b_c1,0,none⟩)),(4,.slice none 0 0),(5,.int .i64 0)]:=hf.to ⟨rfl,rfl,rfl,rfl,trivial⟩
  refine W.seq ?_
  refine W.seq ?_
  refine W.regionL (l:=[0,1,2]) rfl ?_
  refine O.val hf rfl rfl rfl (RunV.loadN (cs':=#[.int .u8 c.kind,.int .i64 c.a.num,.int .i64 c.a.yr,.int .u8 c.a.half,.int .u8 c.a.sec,.int .i64 c.a.cyc,.int .i64 c.b.num,.int .i64 c.b.yr,.int .u8 c.b.half,.int .u8 c.b.sec,.int .i64 c.b.cyc,.int .i64 c.n]) T_agg_26 T_size_26 rfl (hS.ptAt (i:=2) rfl) (Nat.le_of_ble_eq_true rfl) rfl) ?_
  clear hf a; intro a hf
  refine O.callR hf rfl rfl rfl (RunE.call (av:=#[.agg #[.int .u8 c.kind,.int .i64 c.a.num,.int .i64 c.a.yr,.int .u8 c.a.half,.int .u8 c.a.sec,.int .i64 c.a.cyc,.int .i64 c.b.num,.int .i64 c.b.yr,.int .u8 c.b.half,.int .u8 c.b.sec,.int .i64 c.b.cyc,.int .i64 c.n]]) C_ok_25 rfl rfl rfl) (checkC_ok c _ (hS.bptO (i:=0) rfl) hc) ?_
  clear hf a
  rintro _ w3 hS1 a hf
  replace hf:Fr a _ _ ((24,.int .i64 0)::_):=hf
  replace hS:=(hS.call hS1).eqM (N:=[stA 95 24 bm kvs gs,sl 4 1 uv us.length (bools us),pt b_c1 (.cells #[.int .u8 c.kind,.int .i64 c.a.num,.int .i64 c.a.yr,.int .u8 c.a.half,.int .u8 c.a.sec,.int .i64 c.a.cyc,.int .i64 c.b.num,.int .i64 c.b.yr,.int .u8 c.b.half,.int .u8 c.b.sec,.int .i64 c.b.cyc,.int .i64 c.n] 26 (0,0))]) rfl
  clear hS1
  refine O.val hf rfl rfl rfl (RunV.assign rfl) ?_
  clear hf a; intro a hf
  refine O.nil ?_
  refine k_seq ?_
  replace hf:Fr a 43 [] [(0,vl),(3,.pointer (some ⟨b_c1,0,none⟩)),(4,.slice none 0 0),(5,.int .i64 0),(9,.int .i64 0)]:=hf.to ⟨rfl,rfl,rfl,rfl,rfl,trivial⟩
  refine W.seq ?_
  refine W.regionL (l:=[0,1]) rfl ?_
  refine O.val hf rfl rfl rfl (RunV.move rfl) ?_
  clear hf a; intro a hf
  refine O.val hf rfl rfl rfl (RunV.toB (c:=false) (RunV.neq rfl rfl) (by decide)) ?_
  clear hf a; intro a hf
  refine O.nil ?_
  refine k_seq ?_
  replace hf:Fr a 43 [] [(0,vl),(3,.pointer (some ⟨b_c1,0,none⟩)),(4,.slice none 0 0),(5,.int .i64 0),(9,.int .i64 0),(26,.bool false)]:=hf.to ⟨rfl,rfl,rfl,rfl,rfl,rfl,trivial⟩
  refine W.if_ff hf rfl ?_
  refine W.skip ?_
  refine k_seq ?_
  replace hf:Fr a 43 [] [(0,vl),(3,.pointer (some ⟨b_c1,0,none⟩)),(4,.slice none 0 0),(5,.int .i64 0)]:=hf.to ⟨rfl,rfl,rfl,rfl,trivial⟩
  refine W.seq ?_
  have hf1:Fr a 43 [] []:=hf.to trivial
  replace hf:Fr a 43 [] [(0,vl),(3,.pointer (some ⟨b_c1,0,none⟩)),(4,.slice none 0 0),(5,.int .i64 0)]:=hf.to ⟨rfl,rfl,rfl,rfl,trivial⟩
  replace hS:=hS.drew
  replace hS:=hS.emp
  refine W.drawC (γ:=(Nat) × (Value) × (Value)) (L0:=[(0,vl),(3,.pointer (some ⟨b_c1,0,none⟩)),(4,.slice none 0 0),(5,.int .i64 0)]) (L1:=[]) (0,default,default) [1,4] [3] [0,2,5] (fun i=>match i with | 1=>[0] | 3=>[2] | 4=>[1,3] | 5=>[0,1,2,3,4] | _=>[]) (fun i=>match i with | 4=>[1,3] | 5=>[1,4,3] | _=>[]) (fun i=>match i with | 0=>[1,4] | 1=>[4] | 2=>[4] | 3=>[4] | _=>[]) (fun i=>match i with | 4=>[3] | 5=>[3] | _=>[]) (fun i=>match i with | 1=>[4,5] | 3=>[4,5] | 4=>[5] | _=>[]) (fun _=>[]) (fun i=>match i with | 4=>1 | 5=>2 | _=>0) (fun i=>match i with | 1=>1 | 2=>1 | 3=>1 | 4=>2 | 5=>2 | _=>0) (fun (g:(Nat) × (Value) × (Value)) j=>match g,j with | ⟨b_s4,cv,v6⟩,0=>vl | ⟨b_s4,cv,v6⟩,1=>cv | ⟨b_s4,cv,v6⟩,2=>.agg #[.int .u8 c.kind,.int .i64 c.a.num,.int .i64 c.a.yr,.int .u8 c.a.half,.int .u8 c.a.sec,.int .i64 c.a.cyc,.int .i64 c.b.num,.int .i64 c.b.yr,.int .u8 c.b.half,.int .u8 c.b.sec,.int .i64 c.b.cyc,.int .i64 c.n] | ⟨b_s4,cv,v6⟩,3=>.slice (some ⟨b_s4,0,none⟩) 1 1 | ⟨b_s4,cv,v6⟩,4=>v6 | ⟨b_s4,cv,v6⟩,5=>v6 | _,_=>undef) (fun k s (g:(Nat) × (Value) × (Value)) w=>match k,g with | 0,⟨b_s4,cv,v6⟩=>St w0 w noX [ordA,rdv 12 vl l.length (encs eC l)] [condA (s 3) (pt b_s4 (.cells #[.int .u8 c.kind,.int .i64 c.a.num,.int .i64 c.a.yr,.int .u8 c.a.half,.int .u8 c.a.sec,.int .i64 c.a.cyc,.int .i64 c.b.num,.int .i64 c.b.yr,.int .u8 c.b.half,.int .u8 c.b.sec,.int .i64 c.b.cyc,.int .i64 c.n] 26 (0,0))),stA 95 24 bm kvs gs,sl 4 1 uv us.length (bools us),pt b_c1 (.cells #[.int .u8 c.kind,.int .i64 c.a.num,.int .i64 c.a.yr,.int .u8 c.a.half,.int .u8 c.a.sec,.int .i64 c.a.cyc,.int .i64 c.b.num,.int .i64 c.b.yr,.int .u8 c.b.half,.int .u8 c.b.sec,.int .i64 c.b.cyc,.int .i64 c.n] 26 (0,0))] | 1,⟨b_s4,cv,v6⟩=>St w0 w noX [ordA,rdv 12 vl l.length (encs eC l)] [sl 26 12 cv l.length (encs eC l),condA (s 3) (pt b_s4 (.cells #[.int .u8 c.kind,.int .i64 c.a.num,.int .i64 c.a.yr,.int .u8 c.a.half,.int .u8 c.a.sec,.int .i64 c.a.cyc,.int .i64 c.b.num,.int .i64 c.b.yr,.int .u8 c.b.half,.int .u8 c.b.sec,.int .i64 c.b.cyc,.int .i64 c.n] 26 (0,0))),stA 95 24 bm kvs gs,sl 4 1 uv us.length (bools us),pt b_c1 (.cells #[.int .u8 c.kind,.int .i64 c.a.num,.int .i64 c.a.yr,.int .u8 c.a.half,.int .u8 c.a.sec,.int .i64 c.a.cyc,.int .i64 c.b.num,.int .i64 c.b.yr,.int .u8 c.b.half,.int .u8 c.b.sec,.int .i64 c.b.cyc,.int .i64 c.n] 26 (0,0))] | _,⟨b_s4,cv,v6⟩=>St w0 w noX [ordA,rdv 12 vl l.length (encs eC l)] [sl 26 12 v6 ((l++[c]).length) (encs eC (l++[c])),pt b_s4 (.cells #[.int .u8 c.kind,.int .i64 c.a.num,.int .i64 c.a.yr,.int .u8 c.a.half,.int .u8 c.a.sec,.int .i64 c.a.cyc,.int .i64 c.b.num,.int .i64 c.b.yr,.int .u8 c.b.half,.int .u8 c.b.sec,.int .i64 c.b.cyc,.int .i64 c.n] 26 (0,0)),stA 95 24 bm kvs gs,sl 4 1 uv us.length (bools us),pt b_c1 (.cells #[.int .u8 c.kind,.int .i64 c.a.num,.int .i64 c.a.yr,.int .u8 c.a.half,.int .u8 c.a.sec,.int .i64 c.a.cyc,.int .i64 c.b.num,.int .i64 c.b.yr,.int .u8 c.b.half,.int .u8 c.b.sec,.int .i64 c.b.cyc,.int .i64 c.n] 26 (0,0))]) P_mixed (by kernel_rfl) (by kernel_rfl) (by kernel_rfl) hf hf1 hS ?_ ?_ ?_ ?_
  · clear hf hf1 hS
    refine ⟨?_,?_,?_,trivial⟩
    · intro k s g w h1_ h2_ hsp hD a hf
      obtain ⟨b_s4,cv,v6⟩:=g
      rcases k with _ | k
      · have hS:St w0 w noX [ordA,rdv 12 vl l.length (encs eC l)] [condA (s 3) (pt b_s4 (.cells #[.int .u8 c.kind,.int .i64 c.a.num,.int .i64 c.a.yr,.int .u8 c.a.half,.int .u8 c.a.sec,.int .i64 c.a.cyc,.int .i64 c.b.num,.int .i64 c.b.yr,.int .u8 c.b.half,.int .u8 c.b.sec,.int .i64 c.b.cyc,.int .i64 c.n] 26 (0,0))),stA 95 24 bm kvs gs,sl 4 1 uv us.length (bools us),pt b_c1 (.cells #[.int .u8 c.kind,.int .i64 c.a.num,.int .i64 c.a.yr,.int .u8 c.a.half,.int .u8 c.a.sec,.int .i64 c.a.cyc,.int .i64 c.b.num,.int .i64 c.b.yr,.int .u8 c.b.half,.int .u8 c.b.sec,.int .i64 c.b.cyc,.int .i64 c.n] 26 (0,0))]:=hD;
        replace hf:Fr a 43 [] [(0,vl),(3,.pointer (some ⟨b_c1,0,none⟩)),(4,.slice none 0 0),(5,.int .i64 0)]:=hf
        refine O.val hf rfl rfl rfl (RunV.move rfl) ?_
        clear hf a; intro a hf
        exact O.nil ⟨rfl,hf.to trivial,(fun d hd=>by cases (show some 28=some d from hd); exact hf.get _ _ rfl),hD⟩
      · exact absurd h2_ (by simp)
    · intro k s g w h1_ h2_ hsp hD a hf
      obtain ⟨b_s4,cv,v6⟩:=g
      rcases k with _ | _ | k
      · have hS:St w0 w noX [ordA,rdv 12 vl l.length (encs eC l)] [condA (s 3) (pt b_s4 (.cells #[.int .u8 c.kind,.int .i64 c.a.num,.int .i64 c.a.yr,.int .u8 c.a.half,.int .u8 c.a.sec,.int .i64 c.a.cyc,.int .i64 c.b.num,.int .i64 c.b.yr,.int .u8 c.b.half,.int .u8 c.b.sec,.int .i64 c.b.cyc,.int .i64 c.n] 26 (0,0))),stA 95 24 bm kvs gs,sl 4 1 uv us.length (bools us),pt b_c1 (.cells #[.int .u8 c.kind,.int .i64 c.a.num,.int .i64 c.a.yr,.int .u8 c.a.half,.int .u8 c.a.sec,.int .i64 c.a.cyc,.int .i64 c.b.num,.int .i64 c.b.yr,.int .u8 c.b.half,.int .u8 c.b.sec,.int .i64 c.b.cyc,.int .i64 c.n] 26 (0,0))]:=hD;
        replace hf:Fr a 43 [] [(0,vl),(3,.pointer (some ⟨b_c1,0,none⟩)),(4,.slice none 0 0),(5,.int .i64 0)]:=hf
        refine O.val hf rfl rfl rfl (RunV.loadN (cs':=#[.int .u8 c.kind,.int .i64 c.a.num,.int .i64 c.a.yr,.int .u8 c.a.half,.int .u8 c.a.sec,.int .i64 c.a.cyc,.int .i64 c.b.num,.int .i64 c.b.yr,.int .u8 c.b.half,.int .u8 c.b.sec,.int .i64 c.b.cyc,.int .i64 c.n]) T_agg_26 T_size_26 rfl (hS.ptAt (i:=3) rfl) (Nat.le_of_ble_eq_true rfl) rfl) ?_
        clear hf a; intro a hf
        exact O.nil ⟨rfl,hf.to trivial,(fun d hd=>by cases (show some 30=some d from hd); exact hf.get _ _ rfl),hD⟩
      · have hS:St w0 w noX [ordA,rdv 12 vl l.length (encs eC l)] [sl 26 12 cv l.length (encs eC l),condA (s 3) (pt b_s4 (.cells #[.int .u8 c.kind,.int .i64 c.a.num,.int .i64 c.a.yr,.int .u8 c.a.half,.int .u8 c.a.sec,.int .i64 c.a.cyc,.int .i64 c.b.num,.int .i64 c.b.yr,.int .u8 c.b.half,.int .u8 c.b.sec,.int .i64 c.b.cyc,.int .i64 c.n] 26 (0,0))),stA 95 24 bm kvs gs,sl 4 1 uv us.length (bools us),pt b_c1 (.cells #[.int .u8 c.kind,.int .i64 c.a.num,.int .i64 c.a.yr,.int .u8 c.a.half,.int .u8 c.a.sec,.int .i64 c.a.cyc,.int .i64 c.b.num,.int .i64 c.b.yr,.int .u8 c.b.half,.int .u8 c.b.sec,.int .i64 c.b.cyc,.int .i64 c.n] 26 (0,0))]:=hD;
        replace hf:Fr a 43 [] [(0,vl),(3,.pointer (some ⟨b_c1,0,none⟩)),(4,.slice none 0 0),(5,.int .i64 0)]:=hf
        refine O.val hf rfl rfl rfl (RunV.loadN (cs':=#[.int .u8 c.kind,.int .i64 c.a.num,.int .i64 c.a.yr,.int .u8 c.a.half,.int .u8 c.a.sec,.int .i64 c.a.cyc,.int .i64 c.b.num,.int .i64 c.b.yr,.int .u8 c.b.half,.int .u8 c.b.sec,.int .i64 c.b.cyc,.int .i64 c.n]) T_agg_26 T_size_26 rfl (hS.ptAt (i:=4) rfl) (Nat.le_of_ble_eq_true rfl) rfl) ?_
        clear hf a; intro a hf
        exact O.nil ⟨rfl,hf.to trivial,(fun d hd=>by cases (show some 30=some d from hd); exact hf.get _ _ rfl),hD⟩
      · exact absurd h2_ (by simp)
    · intro k s g w h1_ h2_ hsp hD a hf
      obtain ⟨b_s4,cv,v6⟩:=g
      rcases k with _ | _ | _ | k
      · exact absurd h1_ (by decide)
      · exact absurd h1_ (by decide)
      · have ha_:s 3=true:=hsp 3 (by simp)
        have hS:St w0 w noX [ordA,rdv 12 vl l.length (encs eC l)] [sl 26 12 v6 ((l++[c]).length) (encs eC (l++[c])),pt b_s4 (.cells #[.int .u8 c.kind,.int .i64 c.a.num,.int .i64 c.a.yr,.int .u8 c.a.half,.int .u8 c.a.sec,.int .i64 c.a.cyc,.int .i64 c.b.num,.int .i64 c.b.yr,.int .u8 c.b.half,.int .u8 c.b.sec,.int .i64 c.b.cyc,.int .i64 c.n] 26 (0,0)),stA 95 24 bm kvs gs,sl 4 1 uv us.length (bools us),pt b_c1 (.cells #[.int .u8 c.kind,.int .i64 c.a.num,.int .i64 c.a.yr,.int .u8 c.a.half,.int .u8 c.a.sec,.int .i64 c.a.cyc,.int .i64 c.b.num,.int .i64 c.b.yr,.int .u8 c.b.half,.int .u8 c.b.sec,.int .i64 c.b.cyc,.int .i64 c.n] 26 (0,0))]:=hD;
        replace hS:St w0 w noX [ordA,rdv 12 vl l.length (encs eC l)] [sl 26 12 v6 ((l++[c]).length) (encs eC (l++[c])),pt b_s4 (.cells #[.int .u8 c.kind,.int .i64 c.a.num,.int .i64 c.a.yr,.int .u8 c.a.half,.int .u8 c.a.sec,.int .i64 c.a.cyc,.int .i64 c.b.num,.int .i64 c.b.yr,.int .u8 c.b.half,.int .u8 c.b.sec,.int .i64 c.b.cyc,.int .i64 c.n] 26 (0,0)),stA 95 24 bm kvs gs,sl 4 1 uv us.length (bools us),pt b_c1 (.cells #[.int .u8 c.kind,.int .i64 c.a.num,.int .i64 c.a.yr,.int .u8 c.a.half,.int .u8 c.a.sec,.int .i64 c.a.cyc,.int .i64 c.b.num,.int .i64 c.b.yr,.int .u8 c.b.half,.int .u8 c.b.sec,.int .i64 c.b.cyc,.int .i64 c.n] 26 (0,0))]:=hS
        replace hf:Fr a 43 [] [(28,vl),(29,cv),(30,.agg #[.int .u8 c.kind,.int .i64 c.a.num,.int .i64 c.a.yr,.int .u8 c.a.half,.int .u8 c.a.sec,.int .i64 c.a.cyc,.int .i64 c.b.num,.int .i64 c.b.yr,.int .u8 c.b.half,.int .u8 c.b.sec,.int .i64 c.b.cyc,.int .i64 c.n]),(31,.slice (some ⟨b_s4,0,none⟩) 1 1),(32,v6),(0,vl),(3,.pointer (some ⟨b_c1,0,none⟩)),(4,.slice none 0 0),(5,.int .i64 0)]:=hf
        refine O.val hf rfl rfl rfl (RunV.assign rfl) ?_
        clear hf a; intro a hf
        exact O.nil ⟨rfl,hf.to trivial,(fun d hd=>by cases (show some 10=some d from hd); exact hf.get _ _ rfl),hD⟩
      · exact absurd h2_ (by simp)
  · clear hf hf1 hS
    refine ⟨?_,?_,trivial⟩
    · intro s g w hsp hD a hf
      obtain ⟨b_s4,cv,v6⟩:=g
      have hS:St w0 w noX [ordA,rdv 12 vl l.length (encs eC l)] [condA (s 3) (pt b_s4 (.cells #[.int .u8 c.kind,.int .i64 c.a.num,.int .i64 c.a.yr,.int .u8 c.a.half,.int .u8 c.a.sec,.int .i64 c.a.cyc,.int .i64 c.b.num,.int .i64 c.b.yr,.int .u8 c.b.half,.int .u8 c.b.sec,.int .i64 c.b.cyc,.int .i64 c.n] 26 (0,0))),stA 95 24 bm kvs gs,sl 4 1 uv us.length (bools us),pt b_c1 (.cells #[.int .u8 c.kind,.int .i64 c.a.num,.int .i64 c.a.yr,.int .u8 c.a.half,.int .u8 c.a.sec,.int .i64 c.a.cyc,.int .i64 c.b.num,.int .i64 c.b.yr,.int .u8 c.b.half,.int .u8 c.b.sec,.int .i64 c.b.cyc,.int .i64 c.n] 26 (0,0))]:=hD;
      replace hf:Fr a 43 [] [(28,vl),(0,vl),(3,.pointer (some ⟨b_c1,0,none⟩)),(4,.slice none 0 0),(5,.int .i64 0)]:=hf
      clear hD
      refine O.callR hf rfl rfl rfl (RunE.call (av:=#[vl]) C_ok_33 rfl rfl rfl) (cloneC_spec vl l _ hfit (hS.rdAt (j:=1) rfl) (by omega)) ?_
      clear hf a
      rintro cv w7 hS1 a hf
      replace hf:Fr a _ _ ((29,cv)::_):=hf
      replace hS:=(hS.call hS1).eqM (N:=[sl 26 12 cv l.length (encs eC l),condA (s 3) (pt b_s4 (.cells #[.int .u8 c.kind,.int .i64 c.a.num,.int .i64 c.a.yr,.int .u8 c.a.half,.int .u8 c.a.sec,.int .i64 c.a.cyc,.int .i64 c.b.num,.int .i64 c.b.yr,.int .u8 c.b.half,.int .u8 c.b.sec,.int .i64 c.b.cyc,.int .i64 c.n] 26 (0,0))),stA 95 24 bm kvs gs,sl 4 1 uv us.length (bools us),pt b_c1 (.cells #[.int .u8 c.kind,.int .i64 c.a.num,.int .i64 c.a.yr,.int .u8 c.a.half,.int .u8 c.a.sec,.int .i64 c.a.cyc,.int .i64 c.b.num,.int .i64 c.b.yr,.int .u8 c.b.half,.int .u8 c.b.sec,.int .i64 c.b.cyc,.int .i64 c.n] 26 (0,0))]) rfl
      clear hS1
      exact O.nil ⟨rfl,(b_s4,cv,v6),hf.to trivial,(fun d hd=>by cases (show some 29=some d from hd); exact hf.get _ _ rfl),(fun j_ hj_ ha_=>match j_,hj_,ha_ with | 0,hj_,ha_=>rfl | 1,hj_,ha_=>absurd rfl hj_ | 2,hj_,ha_=>rfl | 3,hj_,ha_=>rfl | 4,hj_,ha_=>absurd ha_ (by decide) | 5,hj_,ha_=>absurd ha_ (by decide) | _+6,_,_=>rfl),hS⟩
    · intro s g w hsp hD a hf
      obtain ⟨b_s4,cv,v6⟩:=g
      have ha_:s 3=true:=hsp 3 (by simp)
      have hS:St w0 w noX [ordA,rdv 12 vl l.length (encs eC l)] [sl 26 12 cv l.length (encs eC l),condA (s 3) (pt b_s4 (.cells #[.int .u8 c.kind,.int .i64 c.a.num,.int .i64 c.a.yr,.int .u8 c.a.half,.int .u8 c.a.sec,.int .i64 c.a.cyc,.int .i64 c.b.num,.int .i64 c.b.yr,.int .u8 c.b.half,.int .u8 c.b.sec,.int .i64 c.b.cyc,.int .i64 c.n] 26 (0,0))),stA 95 24 bm kvs gs,sl 4 1 uv us.length (bools us),pt b_c1 (.cells #[.int .u8 c.kind,.int .i64 c.a.num,.int .i64 c.a.yr,.int .u8 c.a.half,.int .u8 c.a.sec,.int .i64 c.a.cyc,.int .i64 c.b.num,.int .i64 c.b.yr,.int .u8 c.b.half,.int .u8 c.b.sec,.int .i64 c.b.cyc,.int .i64 c.n] 26 (0,0))]:=hD; rw [ha_] at hS
      replace hS:St w0 w noX [ordA,rdv 12 vl l.length (encs eC l)] [sl 26 12 cv l.length (encs eC l),pt b_s4 (.cells #[.int .u8 c.kind,.int .i64 c.a.num,.int .i64 c.a.yr,.int .u8 c.a.half,.int .u8 c.a.sec,.int .i64 c.a.cyc,.int .i64 c.b.num,.int .i64 c.b.yr,.int .u8 c.b.half,.int .u8 c.b.sec,.int .i64 c.b.cyc,.int .i64 c.n] 26 (0,0)),stA 95 24 bm kvs gs,sl 4 1 uv us.length (bools us),pt b_c1 (.cells #[.int .u8 c.kind,.int .i64 c.a.num,.int .i64 c.a.yr,.int .u8 c.a.half,.int .u8 c.a.sec,.int .i64 c.a.cyc,.int .i64 c.b.num,.int .i64 c.b.yr,.int .u8 c.b.half,.int .u8 c.b.sec,.int .i64 c.b.cyc,.int .i64 c.n] 26 (0,0))]:=hS
      replace hf:Fr a 43 [] [(29,cv),(31,.slice (some ⟨b_s4,0,none⟩) 1 1),(0,vl),(3,.pointer (some ⟨b_c1,0,none⟩)),(4,.slice none 0 0),(5,.int .i64 0)]:=hf
      clear hD
      refine O.append1 (j:=0) (jj:=1) hf hS rfl rfl T_elem_22 T_size_26 T_bytes_26 T_zero_26 rfl rfl rfl rfl rfl rfl rfl rfl (by unfold maxLen; omega) (by omega) ?_
      clear hf hS a; intro v8 w a hS hf
      replace hS:=hS.eqM (N:=[sl 26 12 v8 (l.length+1) (encs eC l++[.int .u8 c.kind,.int .i64 c.a.num,.int .i64 c.a.yr,.int .u8 c.a.half,.int .u8 c.a.sec,.int .i64 c.a.cyc,.int .i64 c.b.num,.int .i64 c.b.yr,.int .u8 c.b.half,.int .u8 c.b.sec,.int .i64 c.b.cyc,.int .i64 c.n]),pt b_s4 (.cells #[.int .u8 c.kind,.int .i64 c.a.num,.int .i64 c.a.yr,.int .u8 c.a.half,.int .u8 c.a.sec,.int .i64 c.a.cyc,.int .i64 c.b.num,.int .i64 c.b.yr,.int .u8 c.b.half,.int .u8 c.b.sec,.int .i64 c.b.cyc,.int .i64 c.n] 26 (0,0)),stA 95 24 bm kvs gs,sl 4 1 uv us.length (bools us),pt b_c1 (.cells #[.int .u8 c.kind,.int .i64 c.a.num,.int .i64 c.a.yr,.int .u8 c.a.half,.int .u8 c.a.sec,.int .i64 c.a.cyc,.int .i64 c.b.num,.int .i64 c.b.yr,.int .u8 c.b.half,.int .u8 c.b.sec,.int .i64 c.b.cyc,.int .i64 c.n] 26 (0,0))]) rfl
      replace hS:=hS.reE (i:=0) (M':=[sl 26 12 v8 ((l++[c]).length) (encs eC (l++[c])),pt b_s4 (.cells #[.int .u8 c.kind,.int .i64 c.a.num,.int .i64 c.a.yr,.int .u8 c.a.half,.int .u8 c.a.sec,.int .i64 c.a.cyc,.int .i64 c.b.num,.int .i64 c.b.yr,.int .u8 c.b.half,.int .u8 c.b.sec,.int .i64 c.b.cyc,.int .i64 c.n] 26 (0,0)),stA 95 24 bm kvs gs,sl 4 1 uv us.length (bools us),pt b_c1 (.cells #[.int .u8 c.kind,.int .i64 c.a.num,.int .i64 c.a.yr,.int .u8 c.a.half,.int .u8 c.a.sec,.int .i64 c.a.cyc,.int .i64 c.b.num,.int .i64 c.b.yr,.int .u8 c.b.half,.int .u8 c.b.sec,.int .i64 c.b.cyc,.int .i64 c.n] 26 (0,0))]) rfl (sl_snoc (enc:=eC) (l:=l) (x:=c)) rfl
      exact O.nil ⟨rfl,(b_s4,cv,v8),hf.to trivial,(fun d hd=>by cases (show some 32=some d from hd); exact hf.get _ _ rfl),(fun j_ hj_ ha_=>match j_,hj_,ha_ with | 0,hj_,ha_=>rfl | 1,hj_,ha_=>rfl | 2,hj_,ha_=>rfl | 3,hj_,ha_=>rfl | 4,hj_,ha_=>absurd rfl hj_ | 5,hj_,ha_=>absurd ha_ (by decide) | _+6,_,_=>rfl),hS⟩
  · clear hf hf1 hS
    refine ⟨?_,trivial⟩
    intro k s g w h1_ h2_ hs0 hD a hf
    obtain ⟨b_s4,cv,v6⟩:=g
    rcases k with _ | _ | k
    · have hS:St w0 w noX [ordA,rdv 12 vl l.length (encs eC l)] [condA (s 3) (pt b_s4 (.cells #[.int .u8 c.kind,.int .i64 c.a.num,.int .i64 c.a.yr,.int .u8 c.a.half,.int .u8 c.a.sec,.int .i64 c.a.cyc,.int .i64 c.b.num,.int .i64 c.b.yr,.int .u8 c.b.half,.int .u8 c.b.sec,.int .i64 c.b.cyc,.int .i64 c.n] 26 (0,0))),stA 95 24 bm kvs gs,sl 4 1 uv us.length (bools us),pt b_c1 (.cells #[.int .u8 c.kind,.int .i64 c.a.num,.int .i64 c.a.yr,.int .u8 c.a.half,.int .u8 c.a.sec,.int .i64 c.a.cyc,.int .i64 c.b.num,.int .i64 c.b.yr,.int .u8 c.b.half,.int .u8 c.b.sec,.int .i64 c.b.cyc,.int .i64 c.n] 26 (0,0))]:=hD; clear hD
      replace hf:Fr a 43 [] [(30,.agg #[.int .u8 c.kind,.int .i64 c.a.num,.int .i64 c.a.yr,.int .u8 c.a.half,.int .u8 c.a.sec,.int .i64 c.a.cyc,.int .i64 c.b.num,.int .i64 c.b.yr,.int .u8 c.b.half,.int .u8 c.b.sec,.int .i64 c.b.cyc,.int .i64 c.n]),(0,vl),(3,.pointer (some ⟨b_c1,0,none⟩)),(4,.slice none 0 0),(5,.int .i64 0)]:=hf
      refine O.buildC (j:=0) (cs':=#[.int .u8 c.kind,.int .i64 c.a.num,.int .i64 c.a.yr,.int .u8 c.a.half,.int .u8 c.a.sec,.int .i64 c.a.cyc,.int .i64 c.b.num,.int .i64 c.b.yr,.int .u8 c.b.half,.int .u8 c.b.sec,.int .i64 c.b.cyc,.int .i64 c.n]) (zs:=#[.int .u8 0,.int .i64 0,.int .i64 0,.int .u8 0,.int .u8 0,.int .i64 0,.int .i64 0,.int .i64 0,.int .u8 0,.int .u8 0,.int .i64 0,.int .i64 0]) hf hS rfl hs0 rfl rfl T_elem_22 T_size_26 T_zero_26 rfl rfl (by kernel_rfl) rfl (by kernel_rfl) ?_; clear hf hS a; intro b_s9 w a hS hf
      exact O.nil ⟨rfl,(b_s9,cv,v6),hf.to trivial,(fun d hd=>by cases (show some 31=some d from hd); exact hf.get _ _ rfl),(fun j_ hj_ ha_=>match j_,hj_,ha_ with | 0,hj_,ha_=>rfl | 1,hj_,ha_=>rfl | 2,hj_,ha_=>rfl | 3,hj_,ha_=>absurd rfl hj_ | 4,hj_,ha_=>absurd ha_ (by decide) | 5,hj_,ha_=>absurd ha_ (by decide) | _+6,_,_=>rfl),hS⟩
    · have hS:St w0 w noX [ordA,rdv 12 vl l.length (encs eC l)] [sl 26 12 cv l.length (encs eC l),condA (s 3) (pt b_s4 (.cells #[.int .u8 c.kind,.int .i64 c.a.num,.int .i64 c.a.yr,.int .u8 c.a.half,.int .u8 c.a.sec,.int .i64 c.a.cyc,.int .i64 c.b.num,.int .i64 c.b.yr,.int .u8 c.b.half,.int .u8 c.b.sec,.int .i64 c.b.cyc,.int .i64 c.n] 26 (0,0))),stA 95 24 bm kvs gs,sl 4 1 uv us.length (bools us),pt b_c1 (.cells #[.int .u8 c.kind,.int .i64 c.a.num,.int .i64 c.a.yr,.int .u8 c.a.half,.int .u8 c.a.sec,.int .i64 c.a.cyc,.int .i64 c.b.num,.int .i64 c.b.yr,.int .u8 c.b.half,.int .u8 c.b.sec,.int .i64 c.b.cyc,.int .i64 c.n] 26 (0,0))]:=hD; clear hD
      replace hf:Fr a 43 [] [(30,.agg #[.int .u8 c.kind,.int .i64 c.a.num,.int .i64 c.a.yr,.int .u8 c.a.half,.int .u8 c.a.sec,.int .i64 c.a.cyc,.int .i64 c.b.num,.int .i64 c.b.yr,.int .u8 c.b.half,.int .u8 c.b.sec,.int .i64 c.b.cyc,.int .i64 c.n]),(0,vl),(3,.pointer (some ⟨b_c1,0,none⟩)),(4,.slice none 0 0),(5,.int .i64 0)]:=hf
      refine O.buildC (j:=1) (cs':=#[.int .u8 c.kind,.int .i64 c.a.num,.int .i64 c.a.yr,.int .u8 c.a.half,.int .u8 c.a.sec,.int .i64 c.a.cyc,.int .i64 c.b.num,.int .i64 c.b.yr,.int .u8 c.b.half,.int .u8 c.b.sec,.int .i64 c.b.cyc,.int .i64 c.n]) (zs:=#[.int .u8 0,.int .i64 0,.int .i64 0,.int .u8 0,.int .u8 0,.int .i64 0,.int .i64 0,.int .i64 0,.int .u8 0,.int .u8 0,.int .i64 0,.int .i64 0]) hf hS rfl hs0 rfl rfl T_elem_22 T_size_26 T_zero_26 rfl rfl (by kernel_rfl) rfl (by kernel_rfl) ?_; clear hf hS a; intro b_s10 w a hS hf
      exact O.nil ⟨rfl,(b_s10,cv,v6),hf.to trivial,(fun d hd=>by cases (show some 31=some d from hd); exact hf.get _ _ rfl),(fun j_ hj_ ha_=>match j_,hj_,ha_ with | 0,hj_,ha_=>rfl | 1,hj_,ha_=>rfl | 2,hj_,ha_=>rfl | 3,hj_,ha_=>absurd rfl hj_ | 4,hj_,ha_=>absurd ha_ (by decide) | 5,hj_,ha_=>absurd ha_ (by decide) | _+6,_,_=>rfl),hS⟩
    · exact absurd h2_ (by simp)
  clear hf hf1 hS; intro s g a w hs_ hf hD
  obtain ⟨b_s4,cv,v6⟩:=g
  have ha_:s 3=true:=hs_ 3 (by simp)
  have hS:St w0 w noX [ordA,rdv 12 vl l.length (encs eC l)] [sl 26 12 v6 ((l++[c]).length) (encs eC (l++[c])),pt b_s4 (.cells #[.int .u8 c.kind,.int .i64 c.a.num,.int .i64 c.a.yr,.int .u8 c.a.half,.int .u8 c.a.sec,.int .i64 c.a.cyc,.int .i64 c.b.num,.int .i64 c.b.yr,.int .u8 c.b.half,.int .u8 c.b.sec,.int .i64 c.b.cyc,.int .i64 c.n] 26 (0,0)),stA 95 24 bm kvs gs,sl 4 1 uv us.length (bools us),pt b_c1 (.cells #[.int .u8 c.kind,.int .i64 c.a.num,.int .i64 c.a.yr,.int .u8 c.a.half,.int .u8 c.a.sec,.int .i64 c.a.cyc,.int .i64 c.b.num,.int .i64 c.b.yr,.int .u8 c.b.half,.int .u8 c.b.sec,.int .i64 c.b.cyc,.int .i64 c.n] 26 (0,0))]:=hD; clear hD
  replace hf:Fr a 43 [] [(28,vl),(29,cv),(30,.agg #[.int .u8 c.kind,.int .i64 c.a.num,.int .i64 c.a.yr,.int .u8 c.a.half,.int .u8 c.a.sec,.int .i64 c.a.cyc,.int .i64 c.b.num,.int .i64 c.b.yr,.int .u8 c.b.half,.int .u8 c.b.sec,.int .i64 c.b.cyc,.int .i64 c.n]),(31,.slice (some ⟨b_s4,0,none⟩) 1 1),(32,v6),(10,v6),(0,vl),(3,.pointer (some ⟨b_c1,0,none⟩)),(4,.slice none 0 0),(5,.int .i64 0)]:=hf
  refine k_seq ?_
  replace hf:Fr a 43 [] [(4,.slice none 0 0),(5,.int .i64 0),(10,v6)]:=hf.to ⟨rfl,rfl,rfl,trivial⟩
  refine W.seq ?_
  refine W.seq ?_
  refine W.regionL (l:=[0,1,2,3,4,5,6,7,8]) rfl ?_
  refine O.val hf rfl rfl rfl (RunV.move rfl) ?_
  clear hf a; intro a hf
  refine O.callR hf rfl rfl rfl (RunE.call (av:=#[v6]) C_ok_32 rfl rfl rfl) (history_ok v6 (l++[c]) _ (hS.bptO (i:=0) rfl) (hS.slr (j:=0) rfl) (slOK.fit (hS.slAt (j:=0) rfl)) hm2) ?_
  clear hf a
  rintro ⟨uv2,bm2,kvs2,gs2⟩ w11 ⟨hS1,hI2⟩ a hf
  replace hf:Fr a _ _ ((35,.tuple #[.map (some bm2),uv2,.int .i64 0])::_):=hf
  replace hS:=(hS.call hS1).eqM (N:=[stA 95 24 bm2 kvs2 gs2,sl 4 1 uv2 us2.length (bools us2),sl 26 12 v6 ((l++[c]).length) (encs eC (l++[c])),pt b_s4 (.cells #[.int .u8 c.kind,.int .i64 c.a.num,.int .i64 c.a.yr,.int .u8 c.a.half,.int .u8 c.a.sec,.int .i64 c.a.cyc,.int .i64 c.b.num,.int .i64 c.b.yr,.int .u8 c.b.half,.int .u8 c.b.sec,.int .i64 c.b.cyc,.int .i64 c.n] 26 (0,0)),stA 95 24 bm kvs gs,sl 4 1 uv us.length (bools us),pt b_c1 (.cells #[.int .u8 c.kind,.int .i64 c.a.num,.int .i64 c.a.yr,.int .u8 c.a.half,.int .u8 c.a.sec,.int .i64 c.a.cyc,.int .i64 c.b.num,.int .i64 c.b.yr,.int .u8 c.b.half,.int .u8 c.b.sec,.int .i64 c.b.cyc,.int .i64 c.n] 26 (0,0))]) rfl
  clear hS1
  refine O.val hf rfl rfl rfl (RunV.move rfl) ?_
  clear hf a; intro a hf
  refine O.val hf rfl rfl rfl (RunV.extract rfl rfl) ?_
  clear hf a; intro a hf
  refine O.val hf rfl rfl rfl (RunV.extract rfl rfl) ?_
  clear hf a; intro a hf
  refine O.val hf rfl rfl rfl (RunV.extract rfl rfl) ?_
  clear hf a; intro a hf
  refine O.val hf rfl rfl rfl (RunV.assign rfl) ?_
  clear hf a; intro a hf
  refine O.val hf rfl rfl rfl (RunV.assign rfl) ?_
  clear hf a; intro a hf
  refine O.val hf rfl rfl rfl (RunV.assign rfl) ?_
  clear hf a; intro a hf
  refine O.nil ?_
  refine k_seq ?_
  replace hf:Fr a 43 [] [(4,.slice none 0 0),(5,.int .i64 0),(10,v6),(13,.int .i64 0)]:=hf.to ⟨rfl,rfl,rfl,rfl,trivial⟩
  refine W.seq ?_
  refine W.regionL (l:=[0,1]) rfl ?_
  refine O.val hf rfl rfl rfl (RunV.move rfl) ?_
  clear hf a; intro a hf
  refine O.val hf rfl rfl rfl (RunV.toB (c:=false) (RunV.neq rfl rfl) (by decide)) ?_
  clear hf a; intro a hf
  refine O.nil ?_
  refine k_seq ?_
  replace hf:Fr a 43 [] [(4,.slice none 0 0),(5,.int .i64 0),(10,v6),(13,.int .i64 0),(40,.bool false)]:=hf.to ⟨rfl,rfl,rfl,rfl,rfl,trivial⟩
  refine W.if_ff hf rfl ?_
  refine W.skip ?_
  refine k_seq ?_
  replace hf:Fr a 43 [] [(4,.slice none 0 0),(5,.int .i64 0),(10,v6)]:=hf.to ⟨rfl,rfl,rfl,trivial⟩
  refine W.seq ?_
  refine W.regionL (l:=[0,1,2]) rfl ?_
  refine O.val hf rfl rfl rfl (RunV.move rfl) ?_
  clear hf a; intro a hf
  refine O.val hf rfl rfl rfl (RunV.assign rfl) ?_
  clear hf a; intro a hf
  refine O.val hf rfl rfl rfl (RunV.assign rfl) ?_
  clear hf a; intro a hf
  refine O.nil ?_
  refine k_seq ?_
  replace hf:Fr a 43 [] [(4,v6),(5,.int .i64 0)]:=hf.to ⟨rfl,rfl,trivial⟩
  refine W.ret ?_
  refine post2 hf rfl (ResOK.tmp rfl) (ResOK.tmp rfl) ?_
  replace hS:=hS.front (i:=2) (M':=[sl 26 12 v6 ((l++[c]).length) (encs eC (l++[c])),stA 95 24 bm2 kvs2 gs2,sl 4 1 uv2 us2.length (bools us2),pt b_s4 (.cells #[.int .u8 c.kind,.int .i64 c.a.num,.int .i64 c.a.yr,.int .u8 c.a.half,.int .u8 c.a.sec,.int .i64 c.a.cyc,.int .i64 c.b.num,.int .i64 c.b.yr,.int .u8 c.b.half,.int .u8 c.b.sec,.int .i64 c.b.cyc,.int .i64 c.n] 26 (0,0)),stA 95 24 bm kvs gs,sl 4 1 uv us.length (bools us),pt b_c1 (.cells #[.int .u8 c.kind,.int .i64 c.a.num,.int .i64 c.a.yr,.int .u8 c.a.half,.int .u8 c.a.sec,.int .i64 c.a.cyc,.int .i64 c.b.num,.int .i64 c.b.yr,.int .u8 c.b.half,.int .u8 c.b.sec,.int .i64 c.b.cyc,.int .i64 c.n] 26 (0,0))]) rfl rfl
  exact ⟨v6,rfl,(hS.sub (List.Sublist.cons_cons _ (List.nil_sublist _))).noB⟩
end Go.Proofs.YtgakdmmmljdpjaaDoor

namespace Go.SL
open Go
theorem getD_set_ne {us:List Bool} {n k:Nat} (h:n≠k):(us.set n true).getD k false=us.getD k false:=by
  simp [List.getD_eq_getElem?_getD,List.getElem?_set,h]
theorem playK_congr {l l':List Ch} {us us':List Bool}:∀ {k:Nat},(∀ j,j<k→l.getD j default=l'.getD j default)→(∀ j,j<k→us.getD j false=us'.getD j false)→playK l us k=playK l' us' k
  | 0,_,_=>rfl
  | k+1,h1,h2=>by
    have h:=playK_congr (k:=k) (fun j hj=>h1 j (by omega)) (fun j hj=>h2 j (by omega))
    simp only [playK,h,h1 k (by omega),h2 k (by omega)]
theorem undoK_len {l:List Ch}:∀ {k:Nat} {us:List Bool},undoK l k=.ok us→us.length=l.length
  | 0,us,h=>by simp only [undoK,Except.ok.injEq] at h; subst h; simp
  | k+1,us,h=>by
    simp only [undoK] at h
    cases hk:undoK l k with
    | error e=>rw [hk] at h; cases h
    | ok u =>
      have hl:=undoK_len hk
      rw [hk] at h
      simp only at h
      split at h
      · simp only [Except.ok.injEq] at h; rw [← h]; exact hl
      · split at h
        · cases h
        · split at h
          · split at h
            · split at h
              · cases h
              · simp only [Except.ok.injEq] at h; rw [← h,List.length_set]; exact hl
            · cases h
          · cases h
def mapOk {T U:Type} (f:T→U):Except Int T→Except Int U
  | .error e=>.error e
  | .ok x=>.ok (f x)
theorem getD_app {T:Type} {l r:List T} {j:Nat} {d:T} (h:j<l.length):(l++r).getD j d=l.getD j d:=by
  simp [List.getD_eq_getElem?_getD,List.getElem?_append_left h]
theorem undoK_app {l r:List Ch} (hn:∀ j,j<l.length→(l.getD j default).kind=4→0≤(l.getD j default).n):∀ {k:Nat},k≤l.length→undoK (l++r) k=mapOk (·++List.replicate r.length false) (undoK l k)
  | 0,_=>by simp [undoK,mapOk,List.replicate_append_replicate]
  | k+1,h=>by
    have ih:=undoK_app (r:=r) hn (k:=k) (by omega)
    simp only [undoK,ih]
    cases hk:undoK l k with
    | error e=>rfl
    | ok us =>
      have hl:=undoK_len hk
      simp only [mapOk,getD_app (show k<l.length by omega)]
      by_cases h4:(l.getD k default).kind≠4
      · rw [if_pos h4,if_pos h4]
      · rw [if_neg h4,if_neg h4]
        have hn0:=hn k (by omega) (by omega)
        have htk:(l++r).take k=l.take k:=by rw [List.take_append_of_le_length (by omega)]
        rw [htk]
        have hp:∀ u v:List Bool,(∀ j,j<k→u.getD j false=v.getD j false)→playM (l.take k) u=playM (l.take k) v:=fun u v huv=>playK_congr (fun _ _=>rfl) (fun j hj=>huv j (by rw [List.length_take] at hj; omega))
        rw [hp (us++List.replicate r.length false) us (fun j hj=>getD_app (by omega))]
        cases hq:playM (l.take k) us with
        | error e=>rfl
        | ok S =>
          simp only
          by_cases hlt:(l.getD k default).n<(k:Int)
          · rw [if_pos hlt,if_pos hlt]
            have hnn:(l.getD k default).n.toNat<l.length:=by omega
            rw [getD_app hnn,getD_app (by omega)]
            by_cases hs:(l.getD (l.getD k default).n.toNat default).kind≠4∧us.getD (l.getD k default).n.toNat false=false
            · rw [if_pos hs,if_pos hs,List.set_append_left _ _ (by omega)]
              rw [hp (us.set (l.getD k default).n.toNat true++List.replicate r.length false) (us.set (l.getD k default).n.toNat true) (fun j hj=>getD_app (by rw [List.length_set]; omega))]
              cases playM (l.take k) (us.set (l.getD k default).n.toNat true) <;> rfl
            · rw [if_neg hs,if_neg hs]
          · rw [if_neg hlt,if_neg hlt]
theorem okC_ns {l:List Ch} (h:l.all okC=true):∀ j,j<l.length→(l.getD j default).kind=4→0≤(l.getD j default).n:=fun j hj h4=>by
  rw [List.all_eq_true] at h
  exact okC_n (h _ (by rw [List.getD_eq_getElem?_getD,List.getElem?_eq_getElem hj]; exact List.getElem_mem _)) h4
theorem hist_parts {l:List Ch} {S:List PG} {us:List Bool} (h:histM l=.ok (S,us)):l.length≤500∧l.all okC=true∧undoK l l.length=.ok us∧playM l us=.ok S:=by
  unfold histM at h
  split at h
  · cases h
  · rename_i h1
    split at h
    · rename_i h2
      cases hu:undoK l l.length with
      | error e=>rw [hu] at h; cases h
      | ok u =>
        rw [hu] at h
        simp only at h
        cases hp:playM l u with
        | error e=>rw [hp] at h; cases h
        | ok T =>
          rw [hp] at h
          simp only [Except.ok.injEq,Prod.mk.injEq] at h
          obtain ⟨rfl,rfl⟩:=h
          exact ⟨by omega,h2,rfl,hp⟩
    · cases h
def liveK (l:List Ch) (us:List Bool):Nat→List Ch
  | 0=>[]
  | k+1=>if (l.getD k default).kind≠4∧us.getD k false=false then liveK l us k++[l.getD k default] else liveK l us k
theorem liveK_len (l:List Ch) (us:List Bool):∀ k,(liveK l us k).length≤k
  | 0=>Nat.le_refl _
  | k+1=>by
    have:=liveK_len l us k
    simp only [liveK]
    split
    · rw [List.length_append,List.length_singleton]; omega
    · omega
theorem liveK_ok {l:List Ch} {us:List Bool} (h:l.all okC=true):∀ {k},k≤l.length→∀ c ∈ liveK l us k,okC c=true∧c.kind≠4
  | 0,_,c,hc=>by cases hc
  | k+1,hk,c,hc=>by
    simp only [liveK] at hc
    split at hc
    · rename_i h4
      rcases List.mem_append.1 hc with hc | hc
      · exact liveK_ok h (by omega) c hc
      · rw [List.mem_singleton.1 hc]
        rw [List.all_eq_true] at h
        refine ⟨h _ ?_,h4.1⟩
        rw [List.getD_eq_getElem?_getD,List.getElem?_eq_getElem (by omega)]
        exact List.getElem_mem _
    · exact liveK_ok h (by omega) c hc
def runL:List PG→List Ch→Except Int (List PG)
  | S,[]=>.ok S
  | S,c::t=>match stepM S c with
    | .error e=>.error e
    | .ok S'=>runL S' t
theorem runL_app:∀ {cs:List Ch} {S:List PG} {c:Ch},runL S (cs++[c])=(match runL S cs with | .error e=>.error e | .ok S'=>stepM S' c)
  | [],S,c=>by simp only [List.nil_append,runL]; cases stepM S c <;> rfl
  | x::t,S,c=>by
    simp only [List.cons_append,runL]
    cases stepM S x with
    | error e=>rfl
    | ok S'=>exact runL_app
theorem playK_live (l:List Ch) (us:List Bool):∀ k,playK l us k=runL [] (liveK l us k)
  | 0=>rfl
  | k+1=>by
    have ih:=playK_live l us k
    by_cases h:(l.getD k default).kind≠4∧us.getD k false=false
    · rw [show liveK l us (k+1)=liveK l us k++[l.getD k default] from if_pos h,runL_app,← ih]
      cases hq:playK l us k with
      | error e=>simp only [playK,hq]
      | ok S=>exact playK_do hq h.1 h.2
    · rw [show liveK l us (k+1)=liveK l us k from if_neg h,← ih]
      cases hq:playK l us k with
      | error e=>simp only [playK,hq]
      | ok S=>exact playK_no hq h
theorem liveK_self {cs:List Ch} (h:∀ c ∈ cs,c.kind≠4):∀ {k},k≤cs.length→liveK cs (List.replicate cs.length false) k=cs.take k
  | 0,_=>by simp [liveK]
  | k+1,hk=>by
    have hm:cs.getD k default ∈ cs:=by rw [List.getD_eq_getElem?_getD,List.getElem?_eq_getElem (by omega)]; exact List.getElem_mem _
    simp only [liveK]
    rw [if_pos ⟨h _ hm,by simp [List.getD_eq_getElem?_getD,List.getElem?_replicate,show k<cs.length from by omega]⟩,liveK_self h (by omega),take_snoc (by omega)]
theorem undoK_self {cs:List Ch} (h:∀ c ∈ cs,c.kind≠4):∀ {k},k≤cs.length→undoK cs k=.ok (List.replicate cs.length false)
  | 0,_=>rfl
  | k+1,hk=>by
    have hm:cs.getD k default ∈ cs:=by rw [List.getD_eq_getElem?_getD,List.getElem?_eq_getElem (by omega)]; exact List.getElem_mem _
    exact undo_skip (undoK_self h (by omega)) (h _ hm)
theorem hist_self {cs:List Ch} (h:∀ c ∈ cs,okC c=true∧c.kind≠4) (hl:cs.length≤500):histM cs=mapOk (fun S=>(S,List.replicate cs.length false)) (runL [] cs):=by
  unfold histM
  rw [if_neg (by omega),if_pos (List.all_eq_true.2 fun c hc=>(h c hc).1),undoK_self (fun c hc=>(h c hc).2) (Nat.le_refl _)]
  simp only
  rw [show playM cs (List.replicate cs.length false)=runL [] cs from by
    unfold playM
    rw [playK_live,liveK_self (fun c hc=>(h c hc).2) (Nat.le_refl _),List.take_length]]
  cases runL [] cs <;> rfl
section
variable {l:List Ch} {S:List PG} {us:List Bool} {n:Nat}
def undoC (n:Nat):Ch:=⟨4,default,default,(n:Int)⟩
theorem okC_undo:okC (undoC n)=true:=by
  unfold okC undoC
  simp only [show ¬ (4:Int)=1 by decide,show ¬ (4:Int)=2 by decide,show ¬ (4:Int)=3 by decide,if_false,if_true]
  simp
theorem snoc_getD {c:Ch}:(l++[c]).getD l.length default=c:=by simp [List.getD_eq_getElem?_getD]
theorem all_snoc {c:Ch} (h:l.all okC=true) (hc:okC c=true):(l++[c]).all okC=true:=by simp [List.all_append,h,hc]
theorem undoK_snoc {c:Ch} (h:histM l=.ok (S,us)):undoK (l++[c]) l.length=.ok (us++[false]):=by
  obtain ⟨_,h2,h3,_⟩:=hist_parts h
  rw [undoK_app (r:=[c]) (okC_ns h2) (Nat.le_refl _),h3]
  rfl
theorem undo_bad (h:histM l=.ok (S,us)) (h5:l.length<500) (hn:n<l.length) (hb:(l.getD n default).kind=4∨us.getD n false=true):histM (l++[undoC n])=.error 36:=by
  obtain ⟨_,h2,h3,h4⟩:=hist_parts h
  have hu:=undoK_len h3
  refine histM_err (k:=l.length+1) (by rw [List.length_append,List.length_singleton]; omega) (all_snoc h2 okC_undo) ?_ (by simp)
  refine undo_state (us:=us++[false]) (S:=S) (undoK_snoc h) (by rw [snoc_getD]; rfl) ?_ (by rw [snoc_getD]; unfold undoC; simp only; omega) ?_
  · rw [List.take_left]
    exact (playK_congr (fun _ _=>rfl) (fun j hj=>getD_app (by omega))).trans h4
  · rw [snoc_getD]
    show ¬ (((l++[undoC n]).getD (Int.toNat (n:Int)) default).kind≠4∧(us++[false]).getD (Int.toNat (n:Int)) false=false)
    rw [Int.toNat_natCast,getD_app hn,getD_app (by omega)]
    rintro ⟨h5,h6⟩
    rcases hb with hb | hb
    · exact h5 hb
    · rw [hb] at h6; cases h6
theorem undo_do (h:histM l=.ok (S,us)) (h5:l.length<500) (hn:n<l.length) (hk:(l.getD n default).kind≠4) (hf:us.getD n false=false) :
    histM (l++[undoC n])=(match playM l (us.set n true) with | .error _=>.error 36 | .ok S2=>.ok (S2,us.set n true++[false])):=by
  obtain ⟨_,h2,h3,h4⟩:=hist_parts h
  have hu:=undoK_len h3
  have hc1:((l++[undoC n]).getD l.length default).kind=4:=by rw [snoc_getD]; rfl
  have hc2:((l++[undoC n]).getD l.length default).n<(l.length:Int):=by rw [snoc_getD]; unfold undoC; simp only; omega
  have hc3:playM ((l++[undoC n]).take l.length) (us++[false])=.ok S:=by
    rw [List.take_left]
    exact (playK_congr (fun _ _=>rfl) (fun j hj=>getD_app (by omega))).trans h4
  have hcn:((l++[undoC n]).getD l.length default).n.toNat=n:=by rw [snoc_getD]; exact Int.toNat_natCast n
  have hc4:((l++[undoC n]).getD ((l++[undoC n]).getD l.length default).n.toNat default).kind≠4∧(us++[false]).getD ((l++[undoC n]).getD l.length default).n.toNat false=false:=by
    rw [hcn,getD_app hn,getD_app (by omega)]; exact ⟨hk,hf⟩
  have hset:(us++[false]).set ((l++[undoC n]).getD l.length default).n.toNat true=us.set n true++[false]:=by
    rw [hcn,List.set_append_left _ _ (by omega)]
  have hpl:playM ((l++[undoC n]).take l.length) ((us++[false]).set ((l++[undoC n]).getD l.length default).n.toNat true)=playM l (us.set n true):=by
    rw [List.take_left,hset]
    exact playK_congr (fun _ _=>rfl) (fun j hj=>getD_app (by rw [List.length_set]; omega))
  have hlen:(l++[undoC n]).length=l.length+1:=by simp
  cases hp:playM l (us.set n true) with
  | error e =>
    simp only
    exact histM_err (k:=l.length+1) (by omega) (all_snoc h2 okC_undo) (undo_again (undoK_snoc h) hc1 hc3 hc2 hc4 (hpl.trans hp)) (by omega)
  | ok S2 =>
    simp only
    have h6:=undo_ok (undoK_snoc h) hc1 hc3 hc2 hc4 (hpl.trans hp)
    rw [hset] at h6
    refine hist_ok (by omega) (all_snoc h2 okC_undo) (by rw [hlen]; exact h6) ?_
    unfold playM
    rw [hlen]
    refine playK_no (S:=S2) ?_ (fun h=>h.1 hc1)
    exact (playK_congr (fun j hj=>getD_app hj) (fun j hj=>getD_app (by rw [List.length_set]; omega))).trans hp
theorem playK_ok_le {k:Nat} (h:playK l us k=.ok S):∀ {j},j≤k→∃ T,playK l us j=.ok T:=fun {j} hj=>by
  cases hq:playK l us j with
  | ok T=>exact ⟨T,rfl⟩
  | error e =>
    have:=playK_err hq (k-j)
    rw [show j+(k-j)=k from by omega,h] at this
    cases this
theorem undoK_ok_le {k:Nat} (h:undoK l k=.ok us):∀ {j},j≤k→∃ u,undoK l j=.ok u:=fun {j} hj=>by
  cases hq:undoK l j with
  | ok T=>exact ⟨T,rfl⟩
  | error e =>
    have:=undoK_err hq (k-j)
    rw [show j+(k-j)=k from by omega,h] at this
    cases this
theorem undoK_back {k:Nat} (hk:k<l.length) (h:undoK l (k+1)=.ok us) (hp:playK l us (k+1)=.ok S):∃ u T,undoK l k=.ok u∧playK l u k=.ok T:=by
  obtain ⟨u,hu⟩:=undoK_ok_le h (Nat.le_succ k)
  by_cases h4:(l.getD k default).kind≠4
  · have:=undo_skip hu h4
    rw [this,Except.ok.injEq] at h
    subst h
    obtain ⟨T,hT⟩:=playK_ok_le hp (Nat.le_succ k)
    exact ⟨u,T,hu,hT⟩
  · simp only [undoK,hu] at h
    rw [if_neg h4] at h
    cases hq:playM (l.take k) u with
    | error e=>rw [hq] at h; cases h
    | ok T =>
      refine ⟨u,T,hu,?_⟩
      rw [← hq]
      unfold playM
      rw [List.length_take,Nat.min_eq_left (by omega)]
      exact playK_congr (fun j hj=>(take_getD hj).symm) (fun _ _=>rfl)
theorem undoK_backs:∀ {m k:Nat} {us:List Bool} {S:List PG},k+m≤l.length→undoK l (k+m)=.ok us→playK l us (k+m)=.ok S→∃ u T,undoK l k=.ok u∧playK l u k=.ok T
  | 0,k,us,S,_,h,hp=>⟨us,S,h,hp⟩
  | m+1,k,us,S,hl,h,hp=>by
    obtain ⟨u,T,h1,h2⟩:=undoK_back (k:=k+m) (by omega) h hp
    exact undoK_backs (by omega) h1 h2
theorem hist_take (h:histM l=.ok (S,us)) {k:Nat} (hk:k≤l.length):∃ u T,undoK l k=.ok u∧playK l u k=.ok T∧histM (l.take k)=.ok (T,u.take k):=by
  obtain ⟨h1,h2,h3,h4⟩:=hist_parts h
  obtain ⟨u,T,hu,hT⟩:=undoK_backs (l:=l) (k:=k) (m:=l.length-k) (by omega) (by rw [show k+(l.length-k)=l.length by omega]; exact h3) (by rw [show k+(l.length-k)=l.length by omega]; exact h4)
  have hul:=undoK_len hu
  have hlt:(l.take k).length=k:=by rw [List.length_take]; omega
  have hall:(l.take k).all okC=true:=by
    rw [List.all_eq_true] at h2 ⊢
    exact fun x hx=>h2 x (List.mem_of_mem_take hx)
  refine ⟨u,T,hu,hT,hist_ok (l:=l.take k) (show ¬ (l.take k).length>500 by omega) hall ?_ ?_⟩
  · have e:=undoK_app (l:=l.take k) (r:=l.drop k) (okC_ns hall) (k:=k) (by omega)
    rw [List.take_append_drop,hu] at e
    rw [hlt]
    cases hq:undoK (l.take k) k with
    | error e'=>rw [hq] at e; cases e
    | ok v =>
      rw [hq] at e
      simp only [mapOk,Except.ok.injEq] at e
      have hv:=undoK_len hq
      have hvk:v.length=k:=by omega
      rw [e,← hvk,List.take_left]
  · unfold playM
    rw [hlt,← hT]
    exact playK_congr (fun j hj=>take_getD hj) (fun j hj=>by simp [List.getD_eq_getElem?_getD,List.getElem?_take_of_lt hj])
theorem undo_last (h:histM l=.ok (S,us)) (hl:l≠[]) (hk:(l.getD (l.length-1) default).kind≠4) {T:List PG} (hT:playM l (us.set (l.length-1) true)=.ok T):∃ v,histM (l.take (l.length-1))=.ok (T,v):=by
  have hpos:0<l.length:=List.length_pos_iff.2 hl
  obtain ⟨u,T',hu,hT',hh⟩:=hist_take h (k:=l.length-1) (by omega)
  obtain ⟨h1,h2,h3,h4⟩:=hist_parts h
  have h5:=undo_skip hu hk
  rw [show l.length-1+1=l.length by omega,h3,Except.ok.injEq] at h5
  subst h5
  have h6:playM l (us.set (l.length-1) true)=.ok T':=by
    unfold playM
    have:playK l (us.set (l.length-1) true) (l.length-1)=.ok T':=by
      rw [← hT']
      exact playK_congr (fun _ _=>rfl) (fun j hj=>getD_set_ne (by omega))
    have hul:=undoK_len h3
    have:=playK_no (k:=l.length-1) this (fun h=>by
      have:=h.2
      rw [List.getD_eq_getElem?_getD,List.getElem?_set_self (by omega)] at this
      cases this)
    rwa [show l.length-1+1=l.length by omega] at this
  rw [hT,Except.ok.injEq] at h6
  subst h6
  exact ⟨_,hh⟩
end
end Go.SL
