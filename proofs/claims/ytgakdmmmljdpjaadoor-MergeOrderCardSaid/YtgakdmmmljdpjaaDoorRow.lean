/- MergeOrder: for every input. No conditions. -/
import Derived.Test.YtgakdmmmljdpjaaDoorTab
import Derived.ProofKit
import Derived.Lib.SmallJoins
import Derived.Deep.Grids
import Derived.Test.YtgakdmmmljdpjaaDoorTae
import Derived.Lib.LaidU8
import Derived.Test.YtgakdmmmljdpjaaDoorTac
import Derived.Test.YtgakdmmmljdpjaaDoorRows
import Derived.Test.YtgakdmmmljdpjaaDoorTap
import Derived.LaidMore
import Derived.Lay
import Derived.Test.YtgakdmmmljdpjaaDoorTie
import Derived.Test.YtgakdmmmljdpjaaDoorCards
import Derived.SevenTiedAt
set_option linter.unusedVariables false
set_option linter.unusedSimpArgs false
namespace Go.SL
open Go Go.ChangeShapes Go.WideShapes Go.ChangeAt Go.RowKit
inductive LK where
  | int (k:IntKind)
  | bool
  | str
def LK.ok:LK→Value→Prop
  | .int k,v=>∃ n,v=.int k n∧(Lit.int k n).wf=true
  | .bool,v=>∃ b,v=.bool b
  | .str,v=>∃ s:ByteArray,v=.string s∧s.size≤maxLen
def AllK:List LK→List Value→Prop
  | [],cs=>cs=[]
  | k::ks,cs=>∃ v t,cs=v::t∧k.ok v∧AllK ks t
theorem AllK.app:∀ {ks ks':List LK} {a b:List Value},AllK ks a→AllK ks' b→AllK (ks++ks') (a++b)
  | [],_,a,b,h1,h2=>by
    have h1:a=[]:=h1
    subst h1; exact h2
  | k::ks,_,a,b,⟨v,t,h1,h2,h3⟩,h4=>by
    subst h1
    exact ⟨v,t++b,rfl,h2,AllK.app h3 h4⟩
def leafFs (P:Program) (f:TypeId→Option (List LK)):List Field→Nat→Option (List LK × Nat)
  | [],o=>some ([],o)
  | g::t,o=>if Nat.beq g.offset o=true then
      match f g.type with
      | some ks=>if Nat.beq ks.length (P.cellsOf g.type)=true then
          match leafFs P f t (o+ks.length) with
          | some (r,o')=>some (ks++r,o')
          | none=>none
        else none
      | none=>none
    else none
def leafK (P:Program):Nat→TypeId→Option (List LK)
  | 0,_=>none
  | d+1,t=>match P.underlying t with
    | some (.int k)=>some [.int k]
    | some .bool=>some [.bool]
    | some .string=>some [.str]
    | some (.struct fs)=>match leafFs P (leafK P d) fs.toList 0 with
      | some (ks,o)=>if Nat.beq o (P.cellsOf t)=true then some ks else none
      | none=>none
    | some (.array n e)=>match leafK P d e with
      | some ks=>if (Nat.beq ks.length (P.cellsOf e)&&Nat.beq (n*ks.length) (P.cellsOf t))=true then some (List.replicate n ks).flatten else none
      | none=>none
    | _=>none
section
variable {H:Type} {enc:TypeId × Value→H} {P:Program} {w:World} {base:Nat} {spare:Nat→Bool} {held:Bool}
theorem leafFs_ok {f:TypeId→Option (List LK)} {cs:List Value} (hf:∀ t ks,f t=some ks→∀ cs,(∃ (n:Nat) (x:DataW H × List MemPlace),DataW.trod enc P w base spare held n t cs=some x)→AllK ks cs) :
    ∀ (fs:List Field) (o:Nat) (ks:List LK) (o':Nat),leafFs P f fs o=some (ks,o')→(∀ g ∈ fs,∃ (n:Nat) (x:DataW H × List MemPlace),DataW.trod enc P w base spare held n g.type ((cs.drop g.offset).take (P.cellsOf g.type))=some x)→o'=cs.length→AllK ks (cs.drop o)
  | [],o,ks,o',h,_,ho=>by
    simp only [leafFs,Option.some.injEq,Prod.mk.injEq] at h
    obtain ⟨rfl,rfl⟩:=h
    subst ho
    show cs.drop cs.length=[]
    simp
  | g::t,o,ks,o',h,hg,ho=>by
    simp only [leafFs] at h
    split at h
    · rename_i hgo
      have hgo:=Nat.eq_of_beq_eq_true hgo
      split at h
      · rename_i k1 hk1
        split at h
        · rename_i hlen
          have hlen:=Nat.eq_of_beq_eq_true hlen
          split at h
          · rename_i r o2 hr
            simp only [Option.some.injEq,Prod.mk.injEq] at h
            obtain ⟨rfl,rfl⟩:=h
            have h2:=leafFs_ok hf t _ _ _ hr (fun g' hg'=>hg g' (by simp [hg'])) ho
            have h1:=hf _ _ hk1 _ (hg g (by simp))
            rw [hgo,← hlen] at h1
            have e:cs.drop o=(cs.drop o).take k1.length++cs.drop (o+k1.length):=by
              rw [← List.drop_drop,List.take_append_drop]
            rw [e]
            exact h1.app h2
          · cases h
        · cases h
      · cases h
    · cases h
theorem arr_ok {ks:List LK} {cs:List Value} {m:Nat} (hm:ks.length=m) (n:Nat) (hc:cs.length=n*m) (h:∀ i,i<n→AllK ks ((cs.drop (i*m)).take m)):∀ j,j≤n→AllK (List.replicate (n-j) ks).flatten (cs.drop (j*m)):=by
  intro j hj
  obtain ⟨q,hq⟩:∃ q,q=n-j:=⟨_,rfl⟩
  induction q generalizing j with
  | zero =>
    have:j=n:=by omega
    subst this
    rw [Nat.sub_self]
    show cs.drop (j*m)=[]
    rw [← hc]; simp
  | succ q ih =>
    have h1:=ih (j+1) (by omega) (by omega)
    have e:n-j=(n-(j+1))+1:=by omega
    rw [e,List.replicate_succ,List.flatten_cons]
    have e2:cs.drop (j*m)=(cs.drop (j*m)).take m++cs.drop ((j+1)*m):=by
      rw [Nat.add_mul,Nat.one_mul,← List.drop_drop,List.take_append_drop]
    rw [e2]
    exact (h j (by omega)).app h1
theorem leafK_ok:∀ (d:Nat) (t:TypeId) (ks:List LK),leafK P d t=some ks→∀ cs,(∃ (n:Nat) (x:DataW H × List MemPlace),DataW.trod enc P w base spare held n t cs=some x)→AllK ks cs
  | 0,t,ks,h,_,_=>by simp [leafK] at h
  | d+1,t,ks,h,cs,⟨n,x,hx⟩=>by
    have ih:=leafK_ok d
    simp only [leafK] at h
    split at h
    · rename_i k hk
      simp only [Option.some.injEq] at h
      subst h
      obtain ⟨z,rfl,_,hw⟩:=DataW.trod_int hk hx
      exact ⟨_,[],rfl,⟨z,rfl,hw⟩,rfl⟩
    · rename_i hk
      simp only [Option.some.injEq] at h
      subst h
      obtain ⟨z,rfl,_⟩:=DataW.trod_bool hk hx
      exact ⟨_,[],rfl,⟨z,rfl⟩,rfl⟩
    · rename_i hk
      simp only [Option.some.injEq] at h
      subst h
      obtain ⟨z,rfl,_,hw⟩:=DataW.trod_string hk hx
      exact ⟨_,[],rfl,⟨z,rfl,hw⟩,rfl⟩
    · rename_i fs hk
      split at h
      · rename_i ks' o ho
        split at h
        · rename_i hoc
          have hoc:=Nat.eq_of_beq_eq_true hoc
          simp only [Option.some.injEq] at h
          subst h
          obtain ⟨xs,m,rfl,rfl,hl,hxl,hall⟩:=DataW.trod_struct hk hx
          have:=leafFs_ok (H:=H) (cs:=cs) (fun t ks h=>ih t ks h) fs.toList 0 ks' o ho (fun g hg=>?_) (hoc.trans hl.symm)
          · simpa using this
          · obtain ⟨i,hi⟩:=List.getElem?_of_mem hg
            have hi':fs[i]? = some g:=by simpa using hi
            have hlt:i<xs.length:=by rw [hxl]; exact (Array.getElem?_eq_some_iff.1 hi').1
            exact ⟨m,xs[i],by rw [hall i g hi',List.getElem?_eq_getElem hlt]⟩
        · cases h
      · cases h
    · rename_i q e hk
      split at h
      · rename_i ks' hks
        split at h
        · rename_i hc
          simp only [Bool.and_eq_true] at hc
          have hc1:=Nat.eq_of_beq_eq_true hc.1
          have hc2:=Nat.eq_of_beq_eq_true hc.2
          simp only [Option.some.injEq] at h
          subst h
          obtain ⟨xs,m,rfl,rfl,hl,hxl,hall⟩:=DataW.trod_array hk hx
          have:=arr_ok (m:=P.cellsOf e) hc1 q (by rw [hl,← hc2,hc1]) (fun i hi=>ih e ks' hks _ ⟨m,xs[i]'(by omega),by rw [hall i hi,List.getElem?_eq_getElem (by omega)]⟩) 0 (Nat.zero_le _)
          simpa using this
        · cases h
      · cases h
    · cases h
end
theorem Below.trodAll {H:Type} {enc:TypeId × Value→H} {P:Program} (hl:laidOutB P=true) {W W':World} (hb:RowKit.Below W.heap.size W W'):∀ (ts:List TypeId) (vs:List Value) (ds:List (DataW H)) (p:List MemPlace),
    (ts.all fun t=>P.readableRec t&&Nat.blt t P.types.size)=true→DataW.TrodAll enc P W 0 (fun _=>true) true ts vs ds p→(∀ x ∈ p,x.block<W.heap.size)→DataW.TrodAll enc P W' 0 (fun b=>decide (b<W.heap.size)) true ts vs ds p
  | [],[],[],p,_,h,_=>h
  | [],[],_::_,p,_,h,_=>by simp [DataW.TrodAll] at h
  | [],_::_,_,p,_,h,_=>by simp [DataW.TrodAll] at h
  | _::_,[],_,p,_,h,_=>by simp [DataW.TrodAll] at h
  | _::_,_::_,[],p,_,h,_=>by simp [DataW.TrodAll] at h
  | t::ts,v::vs,d::ds,p,ha,h,hlt=>by
    simp only [List.all_cons,Bool.and_eq_true] at ha
    obtain ⟨p1,p2,h1,h2,rfl⟩:=h
    exact ⟨p1,p2,RowKit.Below.trod hl ha.1.1 (by simpa using ha.1.2) h1 hb (fun x hx=>hlt x (List.mem_append_left _ hx)),Below.trodAll hl hb ts vs ds p2 ha.2 h2 (fun x hx=>hlt x (List.mem_append_right _ hx)),rfl⟩
theorem trodAll_uncons {H:Type} {enc:TypeId × Value→H} {P:Program} {w:World} {base:Nat} {spare:Nat→Bool} {held:Bool} {t:TypeId} {ts:List TypeId} {args:List Value} {ds:List (DataW H)} {p:List MemPlace}
    (h:DataW.TrodAll enc P w base spare held (t::ts) args ds p):∃ v vs d ds' p1 p2,args=v::vs∧ds=d::ds'∧DataW.Trod enc P w base spare held t v d p1∧DataW.TrodAll enc P w base spare held ts vs ds' p2∧p=p1++p2:=by
  cases args with
  | nil=>simp [DataW.TrodAll] at h
  | cons v vs =>
    cases ds with
    | nil=>simp [DataW.TrodAll] at h
    | cons d ds' =>
      obtain ⟨p1,p2,h1,h2,rfl⟩:=h
      exact ⟨v,vs,d,ds',p1,p2,rfl,rfl,h1,h2,rfl⟩
theorem trodAll_unnil {H:Type} {enc:TypeId × Value→H} {P:Program} {w:World} {base:Nat} {spare:Nat→Bool} {held:Bool} {args:List Value} {ds:List (DataW H)} {p:List MemPlace}
    (h:DataW.TrodAll enc P w base spare held [] args ds p):args=[]∧ds=[]:=by
  cases args with
  | nil =>
    cases ds with
    | nil=>exact ⟨rfl,rfl⟩
    | cons=>simp [DataW.TrodAll] at h
  | cons=>simp [DataW.TrodAll] at h
end Go.SL

namespace Go.SL
open Go Go.Lib
theorem LaidVars_places {P:Program} {w:World}:∀ {l:List (String × DataW Unit)} {ps:List MemPlace},DataW.LaidVars P w l ps→∀ n d,(n,d) ∈ l →
    ∃ g t cs fuel p,P.globalNamed n=some g∧(P.globals[g]?).map (·.type)=some t∧w.var? P n=some cs∧DataW.trod (fun _=>()) P w 0 (fun _=>true) false fuel t cs.toList=some (d,p)∧∀ x ∈ MemPlace.row ⟨g,0,none⟩ cs.size,x ∈ ps
  | [],_,_,_,_,hm=>by cases hm
  | (n',d')::r,ps,h,n,d,hm=>by
    obtain ⟨g,t,cs,fuel,p,q,h1,h2,h3,h4,h5,h6⟩:=h
    rcases List.mem_cons.1 hm with e | e
    · cases e
      exact ⟨g,t,cs,fuel,p,h1,h2,h3,h4,fun x hx=>by rw [h6]; simp [hx]⟩
    · obtain ⟨g',t',cs',fuel',p',k1,k2,k3,k4,k5⟩:=LaidVars_places h5 n d e
      exact ⟨g',t',cs',fuel',p',k1,k2,k3,k4,fun x hx=>by rw [h6]; simp [k5 x hx]⟩
theorem laid_tab1 {P:Program} {W:World} {laid:List (String × DataW Unit)} {name:String} {g n:Nat} {t e:TypeId} {k:IntKind} {zs:List Int} (h:laidMet P laid W) (hm:(name,tabData k zs) ∈ laid)
    (hg:P.globalNamed name=some g) (hty:(P.globals[g]?).map (·.type)=some t) (ht:P.underlying t=some (.array n e)) (he:P.underlying e=some (.int k)) (hce:P.cellsOf e=1) (hct:P.cellsOf t=n)
    (h0:0<zs.length):∃ ty,W.heap[g]? = some (.cells (zs.map fun z=>Value.int k z).toArray ty (0,0)):=by
  obtain ⟨ps,hv,_,hcell⟩:=h
  obtain ⟨g',t',cs,fuel,p,h1,h2,h3,h4,h5⟩:=LaidVars_places hv _ _ hm
  obtain rfl:=Option.some.inj (hg.symm.trans h1)
  obtain rfl:=Option.some.inj (hty.symm.trans h2)
  have hcs:=cells_of_tab ht he hce hct h4
  have hsz:0<cs.size:=by
    have:=congrArg List.length hcs
    simp only [Array.length_toList,List.length_map] at this
    omega
  obtain ⟨⟨c,ty,hc⟩,_⟩:=hcell g 0 (h5 _ (by
    unfold MemPlace.row
    exact List.mem_map.2 ⟨0,List.mem_range.2 hsz,by simp⟩))
  refine ⟨ty,?_⟩
  unfold World.var? at h3
  rw [hg] at h3
  simp only [Option.bind_some,hc,Option.some.injEq] at h3
  rw [hc,h3,← hcs]
theorem ord_lent {w:World} (h:∃ ty,w.heap[0]? = some (.cells (ordsL.map fun z=>Value.int .i32 z).toArray ty (0,0))):Lent w ordA:=by
  obtain ⟨ty,h⟩:=h
  refine ⟨⟨ty,h⟩,fun k hk=>?_⟩
  have hk:k=0:=hk
  subst hk
  exact (Array.getElem?_eq_some_iff.1 h).1
end Go.SL

namespace Go.SL
open Go Go.ChangeShapes Go.WideShapes Go.ChangeAt Go.RowKit
theorem list_choose {α β:Type} {p:α→β→Prop}:∀ (l:List α),(∀ x ∈ l,∃ y,p x y)→∃ m:List β,m.length=l.length∧∀ (i:Nat) (x:α),l[i]? = some x→∃ y,m[i]? = some y∧p x y
  | [],_=>⟨[],rfl,fun i x h=>by simp at h⟩
  | a::t,h=>by
    obtain ⟨y,hy⟩:=h a (by simp)
    obtain ⟨m,h1,h2⟩:=list_choose t (fun x hx=>h x (by simp [hx]))
    refine ⟨y::m,by simp [h1],fun i x hx=>?_⟩
    cases i with
    | zero=>simp only [List.getElem?_cons_zero,Option.some.injEq] at hx; subst hx; exact ⟨y,rfl,hy⟩
    | succ i=>simpa using h2 i x (by simpa using hx)
section
variable {H:Type} {henc:TypeId × Value→H} {P:Program} {w:World} {spare:Nat→Bool} {held:Bool} {T:Type} {E:T→List Value} {ok:T→Prop} {sz:Nat}
theorem openSlE {t e:TypeId} {d:Nat} {ks:List LK} {v:Value} {dd:DataW H} {ps:List MemPlace} {r:Reach} {b0:Nat} (ht:P.underlying t=some (.slice e)) (hk:leafK P d e=some ks) (hc:P.cellsOf e=sz) (h0:0<sz) (hE:∀ cs,AllK ks cs→∃ x,cs=E x∧ok x) (hlen:∀ x,(E x).length=sz)
    (hval:Value.okWide P w r b0 t v) (h:DataW.Trod henc P w 0 spare held t v dd ps):∃ l:List T,rdEOK (hp w) sz E v l∧∀ x ∈ l,ok x:=by
  obtain ⟨fuel,hf⟩:=h
  obtain ⟨a0,len0,cap0,rfl⟩:=okWide_slice ht hval
  have hcs:(Value.slice a0 len0 cap0).cells.toList=[.slice a0 len0 cap0]:=rfl
  rw [hcs] at hf
  rcases DataW.trod_slice ht hf with ⟨h1,_⟩ | ⟨a,len,cap,elems,rest,n,rfl,h1,_,_,hl,hm,hel,hx,_⟩
  · have h1:(Value.slice a0 len0 cap0)=.slice none 0 0:=by simpa using h1
    rw [h1]
    exact ⟨[],rdEOK_nil,by simp⟩
  · have h1:(Value.slice a0 len0 cap0)=.slice (some a) len cap:=by simpa using h1
    rw [h1]
    rw [hc] at hx
    obtain ⟨l,hl1,hl2⟩:=list_choose (p:=fun i (x:T)=>ok x∧w.cells? 0 (a.add (i*sz)) sz=some (E x)) (List.range len) (fun i hi=>by
      have hi:=List.mem_range.1 hi
      have h2:=hx i hi
      obtain ⟨x,hx'⟩:∃ x,elems[i]? = some x:=⟨_,List.getElem?_eq_getElem (by omega)⟩
      rw [hx'] at h2
      obtain ⟨cs,h3,h4⟩:=Option.bind_eq_some_iff.1 h2
      obtain ⟨y,rfl,hy⟩:=hE cs (leafK_ok d e ks hk cs ⟨_,_,h4⟩)
      exact ⟨y,hy,h3⟩)
    rw [List.length_range] at hl1
    have hcell:∀ (i:Nat) (x:T),l[i]? = some x→ok x∧∀ (k:Nat) (u:Value),(E x)[k]? = some u→w.cell? (a.add (i*sz+k))=some u:=fun i x hxi=>by
      have hi:i<len:=by rw [← hl1]; exact (List.getElem?_eq_some_iff.1 hxi).1
      obtain ⟨y,hy,h5,h6⟩:=hl2 i i (by rw [List.getElem?_range hi])
      rw [hxi] at hy
      simp only [Option.some.injEq] at hy
      subst hy
      refine ⟨h5,fun k u hu=>?_⟩
      have h7:=World.cells?_some h6
      have hk':k<sz:=by rw [← hlen x]; exact (List.getElem?_eq_some_iff.1 hu).1
      have h8:=h7.2.2 k hk'
      rw [hu] at h8
      have ea:(a.add (i*sz)).add k=a.add (i*sz+k):=by
        generalize i*sz=q
        by_cases g1:q=0 <;> by_cases g2:k=0 <;> simp [Addr.add,g1,g2,Nat.add_assoc]
      rw [ea] at h8
      exact h8
    refine ⟨l,⟨⟨by rw [encs_len hlen],by omega,some a,cap,by rw [hl1],fun hn=>?_⟩,by show len≤cap; omega⟩,fun x hxm=>?_⟩
    · have hn':0<l.length:=hn
      obtain ⟨x0,hx0⟩:∃ x,l[0]? = some x:=⟨_,List.getElem?_eq_getElem hn'⟩
      obtain ⟨u0,hu0⟩:∃ u,(E x0)[0]? = some u:=⟨_,List.getElem?_eq_getElem (by rw [hlen]; exact h0)⟩
      have hc0:=(hcell 0 x0 hx0).2 0 u0 hu0
      unfold World.cell? at hc0
      cases hb:w.heap[a.block]? with
      | none=>simp [Addr.add,hb] at hc0
      | some o =>
        cases o with
        | cells cur e' z =>
          have hs:a.spot=none:=by
            cases hs:a.spot with
            | none=>rfl
            | some s=>simp [Addr.add,hb,hs] at hc0
          refine ⟨a,cur,e',z,rfl,hs,hb,fun j u hj=>?_⟩
          have hjl:j<l.length*sz:=by rw [← encs_len hlen]; exact (List.getElem?_eq_some_iff.1 hj).1
          have hjd:j=(j/sz)*sz+j % sz:=by rw [Nat.mul_comm]; exact (Nat.div_add_mod j sz).symm
          have hjr:=Nat.mod_lt j h0
          have hjq:j/sz<l.length:=Nat.div_lt_of_lt_mul (by rw [Nat.mul_comm]; exact hjl)
          obtain ⟨x,hxj⟩:∃ x,l[j/sz]? = some x:=⟨_,List.getElem?_eq_getElem hjq⟩
          rw [hjd,encs_get hlen hxj hjr] at hj
          have h9:=(hcell _ x hxj).2 _ u hj
          rw [← hjd] at h9
          have ea:a.add j=⟨a.block,a.off+j,none⟩:=by
            obtain ⟨b,o,sp⟩:=a
            simp only at hs
            subst hs
            simp [Addr.add]
          rw [ea] at h9
          unfold World.cell? at h9
          simpa [hb] using h9
        | _=>simp [Addr.add,hb] at hc0
    · obtain ⟨i,hi⟩:=List.getElem?_of_mem hxm
      exact (hcell i x hi).1
end
end Go.SL

namespace Go.Proofs.YtgakdmmmljdpjaaDoor
open Go Go.SL Go.ChangeShapes Go.WideShapes Go.ChangeAt Go.RowKit
theorem Tryd.own:ownKnob Tryd.prog.godebug=none:=by kernel_rfl
theorem Tryd.laidOut:laidOutB Tryd.prog=true:=by kernel_rfl
theorem leaf24:leafK Tryd.prog 4 24=some [.int .i64,.int .i64,.int .u8,.int .u8,.int .i64]:=by kernel_rfl
theorem size24:Tryd.prog.cellsOf 24=5:=by kernel_rfl
theorem slice35:Tryd.prog.underlying 35=some (.slice 24):=by kernel_rfl
theorem desig_open (cs:List Value) (h:AllK [.int .i64,.int .i64,.int .u8,.int .u8,.int .i64] cs):∃ x:Dg,cs=eD x∧rD x:=by
  obtain ⟨_,_,rfl,⟨x0,rfl,w0⟩,_,_,rfl,⟨x1,rfl,w1⟩,_,_,rfl,⟨x2,rfl,w2⟩,_,_,rfl,⟨x3,rfl,w3⟩,_,_,rfl,⟨x4,rfl,w4⟩,rfl⟩:=h
  exact ⟨⟨x0,x1,x2,x3,x4⟩,rfl,⟨wfB w2,wfB w3⟩⟩
theorem leaf42:leafK Tryd.prog 6 42=some [.int .i64,.int .i64]:=by kernel_rfl
theorem size42:Tryd.prog.cellsOf 42=2:=by kernel_rfl
theorem slice36:Tryd.prog.underlying 36=some (.slice 42):=by kernel_rfl
theorem pair_open (cs:List Value) (h:AllK [.int .i64,.int .i64] cs):∃ x:Int × Int,cs=eP x∧True:=by
  obtain ⟨_,_,rfl,⟨x0,rfl,w0⟩,_,_,rfl,⟨x1,rfl,w1⟩,rfl⟩:=h
  exact ⟨(x0,x1),rfl,trivial⟩
theorem door_met (os:Os) (args:Array Value):laidMetH Tryd.prog Rows.mergeOrderRow.laid ((World.laidAll Tryd.prog os Rows.mergeOrderRow.laid).forCall (fun _ _=>0) ⟨#[],args,[]⟩).memory:=by
  rw [MakeChecks.laidMetH_plain _ _ _ (by kernel_rfl)]
  exact laidMet_laidAll _ (by kernel_rfl) (by kernel_rfl)
set_option maxRecDepth 100000 in
theorem mergeOrder_lifted (os:Os) (started:os.Started) (H:Type) (enc:TypeId × Value→H) :
    ReturnsInHanded {} Tryd.checked os 4 .any (fun w args=>(Rows.mergeOrderSpec.pre enc Tryd.prog Tryd.f4 [] false w args∧laidMetH Tryd.prog Rows.mergeOrderRow.laid w)∧sizedMet enc Tryd.prog Tryd.f4 (OpenSpec.ofChange Rows.mergeOrderSpec) false w args) (Rows.mergeOrderSpec.post enc Tryd.prog Tryd.f4 false true false false):=by
  refine returnsInHanded_of_change_and (C:=Tryd.checked) (X:=fun w _=>laidMetH Tryd.prog Rows.mergeOrderRow.laid w) (fun _ _ _ hh h=>h.of_heap hh) Tryd.own started (by kernel_rfl) Tryd.func4
    (ChangeSpec.witness_shaped (enc:=enc) (C:=Tryd.checked) (os:=os) (X:=fun w _=>laidMetH Tryd.prog Rows.mergeOrderRow.laid w) false (World.laidAll Tryd.prog os Rows.mergeOrderRow.laid) #[.slice none 0 0,.slice none 0 0] 8 rfl (World.shaped_of_ZipB (by kernel_rfl) (by kernel_rfl)) (by kernel_rfl) (by kernel_rfl) (by kernel_rfl) (door_met os _)) ?_
  intro W base args ds gs before hval0 hW _ _ hL _
  have hval:∀ (j:Nat) t v,Tryd.f4.params[j]? = some t→args[j]? = some v→Value.okWide Tryd.prog W .any base t v:=hval0
  have hW':=hW
  obtain ⟨p,q,hA0,hV,rfl,hfz,hnd⟩:=hW
  have hA:DataW.TrodAll enc Tryd.prog W 0 (fun _=>true) true [35,36] args.toList ds p:=hA0
  obtain ⟨rfl,rfl⟩:=trodVars_none hV
  have hA':=hA
  obtain ⟨v1,a1_,d1,ds1,p1,q1,e1,rfl,t1,hB1,rfl⟩:=trodAll_uncons hA
  obtain ⟨v2,a2_,d2,ds2,p2,q2,rfl,rfl,t2,hB2,rfl⟩:=trodAll_uncons hB1
  obtain ⟨rfl,rfl⟩:=trodAll_unnil hB2
  obtain rfl:args=#[v1,v2]:=by
    apply Array.ext'
    simpa using e1
  obtain ⟨l,hl,hlr⟩:=openSlE (E:=eD) (ok:=rD) slice35 leaf24 size24 (by decide) desig_open eD_len (hval 0 35 v1 rfl rfl) t1
  obtain ⟨ps,hps,_⟩:=openSlE (E:=eP) (ok:=fun _=>True) slice36 leaf42 size42 (by decide) pair_open eP_len (hval 1 36 v2 rfl rfl) t2
  have hlm:laidMet Tryd.prog Rows.mergeOrderRow.laid W:=by
    have h:=hL
    rw [MakeChecks.laidMetH_plain _ _ _ (by kernel_rfl)] at h; exact h
  have hord:=ord_lent (laid_tab1 (k:=.i32) (zs:=ordsL) (name:="planisphere/desig.orders") (g:=0) (n:=25) hlm (by simp [Rows.mergeOrderRow,Rows.laid_planisphere_desig_orders,ordsL,Go.Lib.tabData]) (by kernel_rfl) (t:=123) (by kernel_rfl) (e:=21) (by kernel_rfl) (by kernel_rfl) (by kernel_rfl) (by kernel_rfl) (by decide))
  refine Calls.mono (order_law v1 l v2 ps W hord hl.1 hps.1 hlr) fun e W' ⟨_,he,hS⟩=>?_
  subst he
  have hb:RowKit.Below W.heap.size W W':=⟨hS.os,hS.tape,hS.output,hS.size,fun k hk=>hS.old k hk (fun h=>h)⟩
  refine ⟨_,rfl,_,_,_,[],(p1++(p2++q2)),[],hW',trodAll_mk1 (shut_bool Tryd.underlying4 true),?_,?_,hb.frame _,fun h=>by cases h⟩
  · have hl:=hW'.lt
    simp only [List.append_nil] at hl
    exact Below.trodAll Tryd.laidOut hb _ _ _ _ (by kernel_rfl) hA' (fun x hx=>hl x (by simpa using hx))
  · rfl
theorem mergeOrder_holds:Rows.MergeOrderSaid :=
  OpenClaim.holds_of_wide 4 Tryd.f4 rfl rfl rfl rfl rfl rfl rfl ⟨rfl,rfl,rfl,rfl,rfl⟩ rfl rfl rfl rfl rfl (by kernel_rfl) Tryd.func4 (by kernel_rfl)
    (of_decide_eq_true (by kernel_rfl)) (by unfold Func.isWrapper; first | (rw [if_pos (by decide +kernel)]; kernel_rfl) | (rw [if_neg (by decide +kernel)]; exact ⟨rfl,rfl⟩))
    (fun os started H enc _=>mergeOrder_lifted os started H enc)
end Go.Proofs.YtgakdmmmljdpjaaDoor

namespace Go.Proofs.YtgakdmmmljdpjaaDoor
open Go
theorem mergeOrderCard_holds:Rows.MergeOrderCardSaid :=
  Claim7.holds_tied_plain_at .later [] [.widerDeep] true (true,"b28cc4a234fc7c383bd42b9b5f7d4e425b70887cab9b5ce3da3221e733787fae") true
    mergeOrder_holds (fun _ h=>by cases h) (by kernel_rfl) (fun _ h=>by cases h) mergeOrder_row_tie rfl ⟨rfl,rfl⟩ (by kernel_rfl) rfl
    (fun f fn hf hfn=>by
      obtain rfl:f=4:=Option.some.inj ((show Tryd.prog.funcNamed "planisphere/planispherelaw41.MergeOrder"=some 4 by kernel_rfl).symm.trans hf) |>.symm
      obtain rfl:fn=Tryd.f4:=(Option.some.inj (Tryd.func4.symm.trans hfn)).symm
      exact ⟨by kernel_rfl,fun j t ht=>by
        rw [show Tryd.f4.params=#[35,36] by kernel_rfl] at ht
        rcases j with _ | _ | j
        · simp at ht; subst ht; kernel_rfl
        · simp at ht; subst ht; kernel_rfl
        · simp at ht⟩)
    (by kernel_rfl)
end Go.Proofs.YtgakdmmmljdpjaaDoor
