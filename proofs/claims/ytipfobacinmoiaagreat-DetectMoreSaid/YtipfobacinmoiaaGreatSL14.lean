/- For walks that a program prints whole: loops by fuel or unrolled, elements of any flat type, tests and binds that must have come out well. -/
import Derived.Test.YtipfobacinmoiaaGreatSL10
set_option linter.unusedVariables false
set_option linter.unusedSimpArgs false
namespace Go.SL
open Go
section
variable {r:Option Nat} {P:Program} {Q:Exit→Act→World→Prop} {a:Act} {w:World}
def LH (r:Option Nat) (P:Program) (c:Code) (Q:Exit→Act→World→Prop) (a:Act) (w:World):Prop :=
  ∀ (b:Frame) (k:List Item) (cs:List Frame),b.roundOf=(FW r).round→(FW r).fn b.fn→(FW r).room (cs.length+1+0) →
    ∃ e a' w',Q e a' w'∧ArrivesIn (Machine.fenced P (FW r)) P (lone (b.atR a (.code c::.inLoop c::k)) cs w) b k cs e a' w'
theorem LH.step {c:Code} (h:W r P c (Exit.then (LH r P c Q) Q) a w):LH r P c Q a w:=by
  intro b k cs hro hb hr
  obtain ⟨e,a₁,w₁,hq,harr⟩:=h b (.inLoop c::k) cs hro hb hr
  cases e with
  | normal =>
    obtain ⟨e₂,a₂,w₂,hq₂,harr₂⟩:=hq b k cs hro hb hr
    exact ⟨e₂,a₂,w₂,hq₂,.of_steps (StepsIn.trans harr (.one (fenced_calm hb hr rfl) stepR_inLoop)) harr₂⟩
  | exit id=>exact ⟨_,a₁,w₁,hq,.pass (x:=.inLoop c) rfl (fun _ _=>.inl (by simp)) harr⟩
  | goto l=>exact ⟨_,a₁,w₁,hq,.pass (x:=.inLoop c) rfl (fun _ _=>.inl (by simp)) harr⟩
  | ret=>exact ⟨_,a₁,w₁,hq,.pass (x:=.inLoop c) rfl (fun _ _=>.inl (by simp)) harr⟩
  | panic ch=>exact ⟨_,a₁,w₁,hq,.pass (x:=.inLoop c) rfl (fun _ _=>.inl (by simp)) harr⟩
  | outgrown=>exact ⟨_,a₁,w₁,hq,.pass (x:=.inLoop c) rfl (fun _ _=>.inl (by simp)) harr⟩
theorem W.loopH {c:Code} (h:LH r P c Q a w):W r P (.loop c) Q a w:=by
  intro b k cs hro hb hr
  obtain ⟨e₂,a₂,w₂,hq₂,harr₂⟩:=h b k cs hro hb hr
  exact ⟨e₂,a₂,w₂,hq₂,.of_steps (.one (fenced_calm hb hr rfl) stepR_loop) harr₂⟩
end
def idx {T:Type} (l:List T) (i:Int):Option T:=if 0≤i then l[i.toNat]? else none
def encs {T:Type} (enc:T→List Value) (l:List T):List Value:=l.flatMap enc
theorem idx_some {T:Type} {l:List T} {i:Int} {x:T} (h:idx l i=some x):i=(i.toNat:Int)∧i.toNat<l.length∧l[i.toNat]? = some x:=by
  unfold idx at h
  split at h
  · rename_i h0
    exact ⟨(Int.toNat_of_nonneg h0).symm,(List.getElem?_eq_some_iff.1 h).1,h⟩
  · cases h
section
variable {T:Type} {enc:T→List Value} {sz:Nat} {l m:List T} {j k:Nat} {x y:T} {u:Value}
theorem encs_len (he:∀ x,(enc x).length=sz):∀ l:List T,(encs enc l).length=l.length*sz
  | []=>by simp [encs]
  | x::t=>by
    have:=encs_len he t
    simp only [encs] at this
    simp only [encs,List.flatMap_cons,List.length_append,he,this,List.length_cons,Nat.add_mul,Nat.one_mul]
    omega
theorem encs_app:encs enc (l++m)=encs enc l++encs enc m:=by simp [encs]
theorem encs_get (he:∀ x,(enc x).length=sz):∀ {l:List T} {j k:Nat},l[j]? = some x→k<sz→(encs enc l)[j*sz+k]? = (enc x)[k]?
  | [],j,k,h,_=>by simp at h
  | y::t,0,k,h,hk=>by
    simp only [List.getElem?_cons_zero,Option.some.injEq] at h
    subst h
    simp only [encs,List.flatMap_cons,Nat.zero_mul,Nat.zero_add]
    rw [List.getElem?_append_left (by rw [he]; exact hk)]
  | y::t,j+1,k,h,hk=>by
    simp only [List.getElem?_cons_succ] at h
    have ih:=encs_get he h hk
    simp only [encs] at ih
    simp only [encs,List.flatMap_cons]
    rw [List.getElem?_append_right (by rw [he,Nat.add_mul]; omega),he]
    rw [← ih]
    congr 1
    rw [Nat.add_mul]; omega
def spl (a:List Value) (o:Nat) (us:List Value):List Value:=a.take o++us++a.drop (o+us.length)
theorem spl_get {a us:List Value} {o k:Nat} (h:o+us.length≤a.length):(spl a o us)[k]? = if o≤k∧k<o+us.length then us[k-o]? else a[k]?:=by
  unfold spl
  by_cases h1:k<o
  · rw [if_neg (by omega),List.append_assoc,List.getElem?_append_left (by simp; omega),List.getElem?_take,if_pos h1]
  · by_cases h2:k<o+us.length
    · rw [if_pos ⟨by omega,h2⟩,List.getElem?_append_left (by simp; omega),List.getElem?_append_right (by simp; omega)]
      congr 1; simp; omega
    · rw [if_neg (by omega),List.getElem?_append_right (by simp; omega),List.getElem?_drop]
      congr 1; simp; omega
theorem encs_set (he:∀ x,(enc x).length=sz) {o:Nat} {us:List Value} (hx:l[j]? = some x) (ho:o+us.length≤sz) (hy:enc y=spl (enc x) o us):spl (encs enc l) (j*sz+o) us=encs enc (l.set j y):=by
  have hj:j<l.length:=(List.getElem?_eq_some_iff.1 hx).1
  have hjs:j*sz+sz≤l.length*sz:=by
    have:(j+1)*sz≤l.length*sz:=Nat.mul_le_mul_right _ hj
    rw [Nat.add_mul] at this; omega
  apply List.ext_getElem?
  intro k
  rw [spl_get (by rw [encs_len he]; omega)]
  by_cases h0:k<l.length*sz
  · have hsz:0<sz:=by
      rcases Nat.eq_zero_or_pos sz with h | h
      · subst h; simp at h0
      · exact h
    have hk:k=(k/sz)*sz+k % sz:=by rw [Nat.mul_comm]; exact (Nat.div_add_mod k sz).symm
    have hq:k/sz<l.length:=Nat.div_lt_of_lt_mul (by rw [Nat.mul_comm]; exact h0)
    have hr:=Nat.mod_lt k hsz
    generalize k/sz=q at *
    generalize k % sz=e at *
    have e1:l[q]? = some l[q]:=List.getElem?_eq_getElem hq
    by_cases hqj:q=j
    · subst hqj
      have e2:(l.set q y)[q]? = some y:=by rw [List.getElem?_set_self hj]
      rw [hk,encs_get he e2 hr,hy,spl_get (by rw [he]; omega),encs_get he hx hr]
      by_cases h3:o≤e∧e<o+us.length
      · rw [if_pos (by omega),if_pos h3]; congr 1; omega
      · rw [if_neg (by omega),if_neg h3]
    · have e2:(l.set j y)[q]? = some l[q]:=by rw [List.getElem?_set_ne (fun h=>hqj h.symm)]; exact e1
      rw [if_neg,hk,encs_get he e2 hr,encs_get he e1 hr]
      rcases Nat.lt_or_ge q j with h4 | h4
      · have:(q+1)*sz≤j*sz:=Nat.mul_le_mul_right _ h4
        rw [Nat.add_mul] at this; omega
      · have:(j+1)*sz≤q*sz:=Nat.mul_le_mul_right _ (by omega)
        rw [Nat.add_mul] at this; omega
  · rw [if_neg (by omega),List.getElem?_eq_none (by rw [encs_len he]; omega),List.getElem?_eq_none (by rw [encs_len he,List.length_set]; omega)]
theorem made_encs {z:Value} {x:T} {n:Nat} (hsz:0<sz) (he:∀ x,(enc x).length=sz) (hz:z.cells.toList=enc x):(madeCells z.cells (n*sz)).toList=encs enc (List.replicate n x):=by
  have hzs:z.cells.size=sz:=by rw [← Array.length_toList,hz,he]
  apply List.ext_getElem?
  intro k
  by_cases h0:k<n*sz
  · have hk:k=(k/sz)*sz+k % sz:=by rw [Nat.mul_comm]; exact (Nat.div_add_mod k sz).symm
    have hq:k/sz<n:=Nat.div_lt_of_lt_mul (by rw [Nat.mul_comm]; exact h0)
    have hr:=Nat.mod_lt k hsz
    have e1:(List.replicate n x)[k/sz]? = some x:=by rw [List.getElem?_replicate,if_pos hq]
    have e2:(madeCells z.cells (n*sz)).toList[k]? = z.cells.toList[k % sz]?:=by
      have h5:k % sz<z.cells.size:=by omega
      simp [madeCells,h0,hzs]
      rw [getElem!_pos z.cells _ h5,Array.getElem?_eq_getElem h5]
    rw [e2,hz]
    conv=>rhs; rw [hk]
    rw [encs_get he e1 hr]
  · rw [List.getElem?_eq_none (by simp [madeCells]; omega),List.getElem?_eq_none (by rw [encs_len he]; simp; omega)]
end
def slE {T:Type} (e sz:Nat) (enc:T→List Value) (v:Value) (l:List T):Asr:=sl e sz v l.length (encs enc l)
def vfit:Value→Prop
  | .slice _ n c=>n≤c
  | _=>True
def rdEOK {T:Type} (h:Hp) (sz:Nat) (enc:T→List Value) (v:Value) (l:List T):Prop:=rdOK h sz v l.length (encs enc l)∧vfit v
def rdE {T:Type} (sz:Nat) (enc:T→List Value) (v:Value) (l:List T):Asr :=
  ⟨(rdv sz v l.length (encs enc l)).fp,fun h=>rdEOK h sz enc v l,fun h h' hk hh=>⟨(rdv sz v l.length (encs enc l)).loc h h' hk hh.1,hh.2⟩⟩
theorem slOK.fit {h:Hp} {e:TypeId} {sz:Nat} {v:Value} {n:Nat} {xs:List Value} (hs:slOK h e sz v n xs):vfit v:=by
  rcases hs.2 with ⟨rfl,_⟩ | ⟨g,cap,cur,rfl,_,h1,_⟩
  · exact Nat.le_refl 0
  · exact h1
section
variable {T:Type} {enc:T→List Value} {sz:Nat} {l m:List T} {x0:T}
variable {r:Option Nat} {P:Program} {Q:Exit→Act→World→Prop} {ops:Array Oper} {i:Nat} {rest:List Nat} {a:Act} {w w0 w':World} {n:Nat} {ds:List Deferred} {L:List (Nat × Value)}
  {d:Nat} {op:Op} {ty t e:TypeId} {pos:String} {af:Array Edge} {v u z:Value} {X:Nat→Prop} {B M M':List Asr} {x y:Operand} {b o j q c:Nat} {cs:Array Value} {k:IntKind} {p:Int}
theorem St.rdB (h:St w0 w X B M) (hi:B[j]? = some (rdE sz enc v l)):rdEOK (hp w) sz enc v l:=h.bat hi
theorem St.rdS (h:St w0 w X B M) (hi:M[j]? = some (slE e sz enc v l)):rdEOK (hp w) sz enc v l:=⟨(h.at_ hi:slOK (hp w) e sz v l.length (encs enc l)).rd,(h.at_ hi:slOK (hp w) e sz v l.length (encs enc l)).fit⟩
theorem St.slS (h:St w0 w X B M) (hi:M[j]? = some (slE e sz enc v l)):slOK (hp w) e sz v l.length (encs enc l):=h.at_ hi
theorem rdEOK.le {h:Hp} (hh:rdEOK h sz enc v l):l.length≤maxLen:=hh.1.2.1
theorem RunV.lenE {at_:Array TypeId} (he:(at_[0]?).bind (tElem P)=some e) (hv:ev L x=some v) (hr:rdEOK (hp w) sz enc v l):RunV P n ds L (.call ⟨.builtin .len,#[x],at_⟩) ty w (.int .i64 (l.length:Int)) w:=RunV.lenV he hv hr.1
theorem RunV.ixE (he:tElem P t=some e) (hs:tSize P e=some sz) (hx:ev L x=some v) (hy:ev L y=some (.int k p)) (hr:rdEOK (hp w) sz enc v l) (hi:idx l p=some x0):RunV P n ds L (.indexAddr t x y) ty w (ix v (p.toNat*sz)) w:=by
  obtain ⟨h1,h2,h3⟩:=idx_some hi
  exact RunV.ixV he hs hx hy hr.1 h1 h2 rfl
theorem RunV.ldE1 (ha:tAgg P t=some false) (henc:∀ x,(enc x).length=sz) (hx:ev L x=some (ix v (p.toNat*sz+o))) (hr:rdEOK (hp w) sz enc v l) (hi:idx l p=some x0) (ho:Nat.blt o sz=true) (hv:(enc x0)[o]? = some u):RunV P n ds L (.load t x) ty w u w:=by
  obtain ⟨h1,h2,h3⟩:=idx_some hi
  exact RunV.ld1 ha hx hr.1 (by rw [encs_get henc h3 (by simpa using ho)]; exact hv)
theorem RunV.ldEN {us:List Value} (ha:tAgg P t=some true) (hs:tSize P t=some q) (hq:Nat.blt 0 q=true) (henc:∀ x,(enc x).length=sz) (hx:ev L x=some (ix v (p.toNat*sz+o))) (hr:rdEOK (hp w) sz enc v l) (hi:idx l p=some x0) (ho:Nat.ble (o+q) sz=true) (hl:us.length=q) (hv:((enc x0).drop o).take q=us):RunV P n ds L (.load t x) ty w (.agg us.toArray) w:=by
  obtain ⟨h1,h2,h3⟩:=idx_some hi
  have ho:=Nat.le_of_ble_eq_true ho
  refine RunV.ldN ha hs hq hx hr.1 hl (fun k u hu=>?_)
  subst hv
  rw [List.getElem?_take] at hu
  split at hu
  · rw [List.getElem?_drop] at hu
    rw [Nat.add_assoc,encs_get henc h3 (by omega)]; exact hu
  · cases hu
theorem O.storeE {y0:T} {l':List T} (hf:Fr a n ds L) (hS:St w0 w X B M) (ho:ops[i]? = some ⟨none,.store t x y,ty,pos,af,none⟩) (hx:ev L x=some (ix v (p.toNat*sz+o))) (hy:ev L y=some u)
    (hs:tSize P t=some q) (hq:u.cells.size=q) (h1:oneCells u.cells.toList=true) (hM:M[j]? = some (slE e sz enc v l)) (henc:∀ x,(enc x).length=sz) (hi:idx l p=some x0) (hle:Nat.ble (o+q) sz=true)
    (hy0:enc y0=spl (enc x0) o u.cells.toList) (hl':l.set p.toNat y0=l') (hM':M.set j (slE e sz enc v l')=M')
    (k:∀ w',St w0 w' X B M'→O r P ops Q rest a w'):O r P ops Q (i::rest) a w:=by
  subst hl' hM'
  obtain ⟨g1,g2,g3⟩:=idx_some hi
  have hle:=Nat.le_of_ble_eq_true hle
  have hsl:=hS.slS hM
  have hlen:=hsl.1
  have hN:0<l.length:=by omega
  obtain ⟨g,cap,rfl⟩:=hsl.form hN
  obtain ⟨cur,_,hg,hcs,htk,hcap,hmx⟩:=hsl.block
  have hcap':l.length*sz≤cap*sz:=Nat.mul_le_mul_right _ hcap
  have hjs:p.toNat*sz+sz≤l.length*sz:=by
    have:(p.toNat+1)*sz≤l.length*sz:=Nat.mul_le_mul_right _ g2
    rw [Nat.add_mul] at this; omega
  have hx':ev L x=some (.pointer (some ⟨g,p.toNat*sz+o,none⟩)):=by simpa only [ix,Option.map_some,add_none,Nat.zero_add] using hx
  refine O.unit (w':=setB w g (.cells (wr cur (p.toNat*sz+o) u.cells.toList) e (0,0))) hf ho rfl ?_ (k _ ?_)
  · intro a d pos af g' hf
    simp only [execOp,hf.eval hx',hf.eval hy]
    refine run_u ?_
    have hrs:=run_storeVar (P:=P) (b:=g) (o:=p.toNat*sz+o) (e:=e) (v:=u) (c:=cur) (w:=w) hs hq hg (by omega) h1
    simp only [Instr.storeAt,Instr.sureAddr,Sem.run_bind,Sem.run_pure,Result.andThen,hrs]
  · refine hS.write hM rfl rfl rfl (by rw [setB_size]; exact Nat.le_refl _) (fun b _ hb=>setB_ne (fun e=>hb (by subst e; rfl))) ?_ (fun b hb=>⟨.inl hb,?_⟩)
    · refine ⟨by rw [encs_len henc],.inr ⟨g,cap,_,by rw [List.length_set],setB_at hg,by rw [List.length_set]; exact hcap,hmx,by rw [size_wr]; exact hcs,?_⟩⟩
      rw [← encs_set henc g3 (by rw [Array.length_toList,hq]; exact hle) hy0,List.length_set]
      apply List.ext_getElem?
      intro s
      have hul:u.cells.toList.length=q:=by rw [Array.length_toList,hq]
      rw [spl_get (by rw [encs_len henc,hul]; omega),← htk,List.getElem?_take,Array.getElem?_toList,wr_toList,List.getElem?_take,Array.getElem?_toList]
      by_cases h5:p.toNat*sz+o≤s∧s<p.toNat*sz+o+u.cells.toList.length
      · rw [if_pos (by omega),if_pos (by omega),if_pos h5]
      · rw [if_neg h5]
        split
        · rw [if_neg (by omega),Array.getElem?_toList]
        · rfl
    · rw [setB_size]
      have hb:some g=some b:=hb
      injection hb with hb
      subst hb
      exact (Array.getElem?_eq_some_iff.1 hg).1
theorem oneCells_app {a b:List Value} (h1:oneCells a=true) (h2:oneCells b=true):oneCells (a++b)=true:=by
  induction a with
  | nil=>exact h2
  | cons x t ih =>
    obtain ⟨h3,h4⟩:=oneCells_cons h1
    exact oneCells_cc h3 (ih h4)
theorem oneCells_encs (h:∀ x,oneCells (enc x)=true):∀ l:List T,oneCells (encs enc l)=true
  | []=>rfl
  | x::t=>by
    have ih:=oneCells_encs h t
    simp only [encs] at ih
    simp only [encs,List.flatMap_cons]
    exact oneCells_app (h x) ih
theorem O.appendEV {by_:Nat} {l':List T} (hf:Fr a n ds L) (hS:St w0 w X B M) (ho:ops[i]? = some ⟨some d,.call ⟨.builtin .append,#[x,y],#[t,t]⟩,ty,pos,af,none⟩) (hd:Nat.blt d n=true)
    (he:tElem P t=some e) (hs:tSize P e=some sz) (hby:tBytes P e=some by_) (hz:tZero P e=some z) (hzs:z.cells.size=sz) (h0:Nat.blt 0 sz=true) (hx:ev L x=some v) (hy:ev L y=some u)
    (hM:M[j]? = some (slE e sz enc v l)) (hr:rdEOK (hp w) sz enc u m) (h1:∀ x,oneCells (enc x)=true) (hmax:(l.length:Int)≤4294967296) (hmax2:(m.length:Int)≤4294967296) (hb:Nat.ble by_ 16000=true) (hl':l++m=l')
    (k:∀ v' w' a',St w0 w' X B (M.set j (slE e sz enc v' l'))→Fr a' n ds ((d,v')::L)→O r P ops Q rest a' w'):O r P ops Q (i::rest) a w:=by
  have hb:=Nat.le_of_ble_eq_true hb
  have h9:(l.length+m.length)*by_≤140737488355328:=by
    refine Nat.le_trans (Nat.mul_le_mul (show l.length+m.length≤8589934592 by omega) hb) ?_
    decide
  refine O.appendV (j:=j) hf hS ho hd he hs hby hz hzs h0 hx hy hM hr.1 (oneCells_encs h1 m) (by unfold maxLen; omega) h9 (fun v' w' a' hS' hf'=>k v' w' a' ?_ hf')
  subst hl'
  have e1:slE e sz enc v' (l++m)=sl e sz v' (l.length+m.length) (encs enc l++encs enc m):=by
    unfold slE; rw [encs_app,List.length_append]
  rw [e1]; exact hS'
theorem St.nilE (h:St w0 w X B M) (e sz:Nat) (enc:T→List Value):St w0 w X B (slE e sz enc (.slice none 0 0) []::M):=h.nilSl e sz
theorem St.ptE {xs:List T} {N:Nat} (hS:St w0 w X B M) (hi:M[j]? = some (pt b (.cells cs e (0,0)))) (hn:Nat.ble N 1000=true) (hN:xs.length=N) (hc:cs.size=N*sz) (hx:cs.toList=encs enc xs) (hM:M.set j (slE e sz enc (.slice (some ⟨b,0,none⟩) N N) xs)=M'):St w0 w X B M':=by
  have hn:=Nat.le_of_ble_eq_true hn
  refine hS.ptSl (n:=N) (sz:=sz) (xs:=encs enc xs) hi (by unfold maxLen; omega) hc hx ?_
  rw [← hM]; unfold slE; rw [hN]
end
end Go.SL
