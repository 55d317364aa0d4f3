/- DetectMoved: for every input. No conditions. -/
import Derived.Test.YtipfobacinmoiaaGreatTab
import Derived.ProofKit
import Derived.Lib.SmallJoins
import Derived.Deep.Grids
import Derived.Test.YtipfobacinmoiaaGreatRows
import Derived.Test.YtipfobacinmoiaaGreatTar
set_option linter.unusedVariables false
set_option linter.unusedSimpArgs false
namespace Go.SL
open Go Go.ChangeShapes Go.WideShapes Go.ChangeAt Go.RowKit
inductive LK where
  | int (k:IntKind)
  | bool
  | str
def LK.ok:LK→Value→Prop
  | .int k,v=>∃ n,v=.int k n∧(Lit.int k n).wf=true
  | .bool,v=>∃ b,v=.bool b
  | .str,v=>∃ s:ByteArray,v=.string s∧s.size≤maxLen
def zK:List LK→List Value→Prop
  | [],cs=>cs=[]
  | k::ks,cs=>∃ v t,cs=v::t∧k.ok v∧zK ks t
theorem zK.app:∀ {ks ks':List LK} {a b:List Value},zK ks a→zK ks' b→zK (ks++ks') (a++b)
  | [],_,a,b,h1,h2=>by
    have h1:a=[]:=h1
    subst h1; exact h2
  | k::ks,_,a,b,⟨v,t,h1,h2,h3⟩,h4=>by
    subst h1
    exact ⟨v,t++b,rfl,h2,zK.app h3 h4⟩
def aA3 (P:Program) (f:TypeId→Option (List LK)):List Field→Nat→Option (List LK × Nat)
  | [],o=>some ([],o)
  | g::t,o=>if Nat.beq g.offset o=true then
      match f g.type with
      | some ks=>if Nat.beq ks.length (P.cellsOf g.type)=true then
          match aA3 P f t (o+ks.length) with
          | some (r,o')=>some (ks++r,o')
          | none=>none
        else none
      | none=>none
    else none
def aDT (P:Program):Nat→TypeId→Option (List LK)
  | 0,_=>none
  | d+1,t=>match P.underlying t with
    | some (.int k)=>some [.int k]
    | some .bool=>some [.bool]
    | some .string=>some [.str]
    | some (.struct fs)=>match aA3 P (aDT P d) fs.toList 0 with
      | some (ks,o)=>if Nat.beq o (P.cellsOf t)=true then some ks else none
      | none=>none
    | some (.array n e)=>match aDT P d e with
      | some ks=>if (Nat.beq ks.length (P.cellsOf e)&&Nat.beq (n*ks.length) (P.cellsOf t))=true then some (List.replicate n ks).flatten else none
      | none=>none
    | _=>none
section
variable {H:Type} {enc:TypeId × Value→H} {P:Program} {w:World} {base:Nat} {spare:Nat→Bool} {held:Bool}
end
theorem Below.trodAll {H:Type} {enc:TypeId × Value→H} {P:Program} (hl:laidOutB P=true) {W W':World} (hb:RowKit.Below W.heap.size W W'):∀ (ts:List TypeId) (vs:List Value) (ds:List (DataW H)) (p:List MemPlace),
    (ts.all fun t=>P.readableRec t&&Nat.blt t P.types.size)=true→DataW.TrodAll enc P W 0 (fun _=>true) true ts vs ds p→(∀ x ∈ p,x.block<W.heap.size)→DataW.TrodAll enc P W' 0 (fun b=>decide (b<W.heap.size)) true ts vs ds p
  | [],[],[],p,_,h,_=>h
  | [],[],_::_,p,_,h,_=>by simp [DataW.TrodAll] at h
  | [],_::_,_,p,_,h,_=>by simp [DataW.TrodAll] at h
  | _::_,[],_,p,_,h,_=>by simp [DataW.TrodAll] at h
  | _::_,_::_,[],p,_,h,_=>by simp [DataW.TrodAll] at h
  | t::ts,v::vs,d::ds,p,ha,h,hlt=>by
    simp only [List.all_cons,Bool.and_eq_true] at ha
    obtain ⟨p1,p2,h1,h2,rfl⟩:=h
    exact ⟨p1,p2,RowKit.Below.trod hl ha.1.1 (by simpa using ha.1.2) h1 hb (fun x hx=>hlt x (List.mem_append_left _ hx)),Below.trodAll hl hb ts vs ds p2 ha.2 h2 (fun x hx=>hlt x (List.mem_append_right _ hx)),rfl⟩
theorem eD {H:Type} {enc:TypeId × Value→H} {P:Program} {w:World} {base:Nat} {spare:Nat→Bool} {held:Bool} {t:TypeId} {ts:List TypeId} {args:List Value} {ds:List (DataW H)} {p:List MemPlace}
    (h:DataW.TrodAll enc P w base spare held (t::ts) args ds p):∃ v vs d ds' p1 p2,args=v::vs∧ds=d::ds'∧DataW.Trod enc P w base spare held t v d p1∧DataW.TrodAll enc P w base spare held ts vs ds' p2∧p=p1++p2:=by
  cases args with
  | nil=>simp [DataW.TrodAll] at h
  | cons v vs =>
    cases ds with
    | nil=>simp [DataW.TrodAll] at h
    | cons d ds' =>
      obtain ⟨p1,p2,h1,h2,rfl⟩:=h
      exact ⟨v,vs,d,ds',p1,p2,rfl,rfl,h1,h2,rfl⟩
theorem qW {H:Type} {enc:TypeId × Value→H} {P:Program} {w:World} {base:Nat} {spare:Nat→Bool} {held:Bool} {args:List Value} {ds:List (DataW H)} {p:List MemPlace}
    (h:DataW.TrodAll enc P w base spare held [] args ds p):args=[]∧ds=[]:=by
  cases args with
  | nil =>
    cases ds with
    | nil=>exact ⟨rfl,rfl⟩
    | cons=>simp [DataW.TrodAll] at h
  | cons=>simp [DataW.TrodAll] at h
end Go.SL

namespace Go.Proofs.YtipfobacinmoiaaGreat
open Go Go.SL Go.ChangeShapes Go.WideShapes Go.ChangeAt Go.RowKit
theorem lm {W:World} {a:Addr} {len cap:Nat} {xs:List Value} (hl:xs.length=len) (hm:len≤maxLen) (h:∀ i u,xs[i]? = some u→W.cell? (a.add i)=some u):aQ (hp W) 1 (.slice (some a) len cap) len xs:=by
  refine ⟨by omega,hm,some a,cap,rfl,fun hn=>?_⟩
  have h0:=h 0 (xs[0]'(by omega)) (by simp [hl,hn])
  unfold World.cell? at h0
  cases hb:W.heap[a.block]? with
  | none=>simp [Addr.add,hb] at h0
  | some o =>
    cases o with
    | cells cur e z =>
      have hs:a.spot=none:=by
        cases hs:a.spot with
        | none=>rfl
        | some s=>simp [Addr.add,hb,hs] at h0
      refine ⟨a,cur,e,z,rfl,hs,hb,fun j u hj=>?_⟩
      have:=h j u hj
      have ea:a.add j=⟨a.block,a.off+j,none⟩:=by
        obtain ⟨b,o,sp⟩:=a
        simp only at hs
        subst hs
        simp [Addr.add]
      rw [ea] at this
      unfold World.cell? at this
      simpa [hb] using this
    | _=>simp [Addr.add,hb] at h0
theorem Tryz.own:ownKnob Tryz.prog.godebug=none:=by kernel_rfl
theorem Tryz.laidOut:laidOutB Tryz.prog=true:=by kernel_rfl
set_option maxRecDepth 100000 in
theorem detectMoved_lifted (os:Os) (started:os.Started) (H:Type) (enc:TypeId × Value→H) :
    ReturnsInHanded {} Tryz.checked os 7 .any (Rows.detectMovedSpec.pre6 enc Tryz.prog Tryz.f7 Rows.detectMovedRow.domain false) (Rows.detectMovedSpec.post enc Tryz.prog Tryz.f7 false true false false):=by
  refine returnsInHanded_of_change (C:=Tryz.checked) Tryz.own started (by kernel_rfl) Tryz.func7
    (ChangeSpec.witness6 (enc:=enc) (C:=Tryz.checked) false ⟨#[],#[.agg #[.int .i64 0,.int .i64 0,.slice none 0 0],.slice none 0 0,.int .i64 0,.int .i64 0,.slice none 0 0,.int .i64 0],[]⟩ 8 (by kernel_rfl) (by kernel_rfl) (by kernel_rfl) (by kernel_rfl)) ?_
  intro W base args ds gs before hval0 hW hcnd _
  have hval:∀ (j:Nat) t v,Tryz.f7.params[j]? = some t→args[j]? = some v→Value.okWide Tryz.prog W .any base t v:=hval0
  have hW':=hW
  obtain ⟨p,q,hA0,hV,rfl,hfz,hnd⟩:=hW
  have hA:DataW.TrodAll enc Tryz.prog W 0 (fun _=>true) true [24,25,2,3,22,2] args.toList ds p:=hA0
  obtain ⟨rfl,rfl⟩:=trodVars_none hV
  have hA':=hA
  obtain ⟨v0,a0,d0,ds0,p0,q0,e1,rfl,t0,hB0,rfl⟩:=eD hA
  obtain ⟨v1,a1,d1,ds1,p1,q1,rfl,rfl,t1,hB1,rfl⟩:=eD hB0
  obtain ⟨v2,a2,d2,ds2,p2,q2,rfl,rfl,t2,hB2,rfl⟩:=eD hB1
  obtain ⟨v3,a3,d3,ds3,p3,q3,rfl,rfl,t3,hB3,rfl⟩:=eD hB2
  obtain ⟨v4,a4,d4,ds4,p4,q4,rfl,rfl,t4,hB4,rfl⟩:=eD hB3
  obtain ⟨v5,a5,d5,ds5,p5,q5,rfl,rfl,t5,hB5,rfl⟩:=eD hB4
  obtain ⟨rfl,rfl⟩:=qW hB5
  obtain rfl:args=#[v0,v1,v2,v3,v4,v5]:=by
    apply Array.ext'
    simpa using e1
  obtain ⟨fw,fh,vP,y0,y1,y2,m,rfl,rfl,rfl,hy0,hy1,hy2⟩:=Joins.open_agg3 Tryz.underlying24 (by kernel_rfl) (by kernel_rfl) (hval 0 24 v0 rfl rfl) t0
  obtain ⟨a,e0,_,_⟩:=DataW.trod_int Tryz.underlying3 hy0
  obtain ⟨b,e1',_,_⟩:=DataW.trod_int Tryz.underlying3 hy1
  obtain rfl:fw=.int .i64 a:=by simpa using e0
  obtain rfl:fh=.int .i64 b:=by simpa using e1'
  have hP:∃ zs:List Int,aQ (hp W) 1 vP zs.length (ints zs):=by
    rcases open_ints Tryz.underlying22 Tryz.underlying2 (by kernel_rfl) hy2 with ⟨hc,_⟩ | ⟨ad,len,cap,zs,hc,_,hl,hm,hz,_,hcell,_⟩
    · obtain rfl:vP=.slice none 0 0:=by simpa using hc
      exact ⟨[],⟨rfl,Nat.zero_le _,none,0,rfl,fun h=>absurd h (Nat.lt_irrefl _)⟩⟩
    · obtain rfl:vP=.slice (some ad) len cap:=by simpa using hc
      have hz':zs.length=cap:=by simpa using hz
      have ht:(zs.take len).length=len:=by rw [List.length_take]; omega
      refine ⟨zs.take len,?_⟩
      rw [ht]
      refine lm (by rw [Go.SL.ai]; exact ht) (by omega) fun i u hu=>?_
      obtain ⟨hi,rfl⟩:=Go.SL.ints_at hu
      rw [hcell i (by omega)]
      congr 2
      simp only [List.getD_eq_getElem?_getD,List.getElem?_take_of_lt (show i<len by omega)]
  obtain ⟨zs,hP⟩:=hP
  have hB_:∃ bs:List Bool,aQ (hp W) 1 v1 bs.length (bools bs):=by
    obtain ⟨a0,len0,cap0,rfl⟩:=okWide_slice Tryz.underlying25 (hval 1 25 v1 rfl rfl)
    obtain ⟨fuel,hf⟩:=t1
    rcases Deep.open_bools Tryz.underlying25 Tryz.underlying4 (by kernel_rfl) hf with ⟨hc,_⟩ | ⟨ad,len,cap,Bf,hc,_,hl,hm,_,hcell⟩
    · have hc:(Value.slice a0 len0 cap0)=.slice none 0 0:=by simpa [Value.cells] using hc
      rw [hc]
      exact ⟨[],⟨rfl,Nat.zero_le _,none,0,rfl,fun h=>absurd h (Nat.lt_irrefl _)⟩⟩
    · have hc:(Value.slice a0 len0 cap0)=.slice (some ad) len cap:=by simpa [Value.cells] using hc
      rw [hc]
      refine ⟨(List.range len).map Bf,?_⟩
      have ht:((List.range len).map Bf).length=len:=by simp
      rw [ht]
      refine lm (by simp [bools]) (by omega) fun i u hu=>?_
      simp only [bools,List.map_map,List.getElem?_map,Option.map_eq_some_iff] at hu
      obtain ⟨j,hj,rfl⟩:=hu
      have hj':=List.getElem?_eq_some_iff.1 hj
      obtain ⟨hi,he⟩:=hj'
      simp only [List.length_range] at hi
      simp only [List.getElem_range] at he
      subst he
      exact hcell i (by omega)
  obtain ⟨bs,hB_⟩:=hB_
  obtain ⟨x2,rfl,rfl,rfl,w2⟩:=open_int Tryz.underlying2 (hval 2 2 v2 rfl rfl) t2
  obtain ⟨x3,rfl,rfl,rfl,w3⟩:=open_int Tryz.underlying3 (hval 3 3 v3 rfl rfl) t3
  have hL4:∃ zs:List Int,aQ (hp W) 1 v4 zs.length (ints zs)∧vfit v4:=by
    obtain ⟨a0,len0,cap0,rfl⟩:=okWide_slice Tryz.underlying22 (hval 4 22 v4 rfl rfl)
    obtain ⟨fuel,hf⟩:=t4
    rcases open_ints Tryz.underlying22 Tryz.underlying2 (by kernel_rfl) hf with ⟨hc,_⟩ | ⟨ad,len,cap,zs,hc,_,hl,hm,hz,_,hcell,_⟩
    · have hc:(Value.slice a0 len0 cap0)=.slice none 0 0:=by simpa [Value.cells] using hc
      rw [hc]
      exact ⟨[],⟨rfl,Nat.zero_le _,none,0,rfl,fun h=>absurd h (Nat.lt_irrefl _)⟩,Nat.le_refl _⟩
    · have hc:(Value.slice a0 len0 cap0)=.slice (some ad) len cap:=by simpa [Value.cells] using hc
      rw [hc]
      have hz':zs.length=cap:=by simpa using hz
      have ht:(zs.take len).length=len:=by rw [List.length_take]; omega
      refine ⟨zs.take len,?_,(by show len≤cap; omega)⟩
      rw [ht]
      refine lm (by rw [Go.SL.ai]; exact ht) (by omega) fun i u hu=>?_
      obtain ⟨hi,rfl⟩:=Go.SL.ints_at hu
      rw [hcell i (by omega)]
      congr 2
      simp only [List.getD_eq_getElem?_getD,List.getElem?_take_of_lt (show i<len by omega)]
  obtain ⟨l4,hL4⟩:=hL4
  obtain ⟨x5,rfl,rfl,rfl,w5⟩:=open_int Tryz.underlying2 (hval 5 2 v5 rfl rfl) t5
  refine Calls.mono (zu a b x2 x3 x5 vP v1 v4 zs bs l4 W hP hB_ hL4.1 hL4.2) fun e W' ⟨_,he,hS⟩=>?_
  subst he
  have hb:RowKit.Below W.heap.size W W':=⟨hS.os,hS.tape,hS.output,hS.size,fun k hk=>hS.old k hk (fun h=>h)⟩
  refine ⟨_,rfl,_,_,_,[],(y0.2++(y1.2++y2.2))++(p1++([]++([]++(p4++([]++q5))))),[],hW',trodAll_mk1 (shut_bool Tryz.underlying4 true),?_,?_,hb.frame _,fun h=>by cases h⟩
  · have hl:=hW'.lt
    simp only [List.append_nil] at hl
    exact Below.trodAll Tryz.laidOut hb _ _ _ _ (by kernel_rfl) hA' (fun x hx=>hl x (by simpa using hx))
  · rfl
theorem detectMoved_holds:Rows.DetectMovedSaid :=
  OpenClaim.holds_of_wide 7 Tryz.f7 rfl rfl rfl rfl rfl rfl rfl ⟨rfl,rfl,rfl,rfl,rfl⟩ rfl rfl rfl rfl rfl (by kernel_rfl) Tryz.func7 (by kernel_rfl)
    (of_decide_eq_true (by kernel_rfl)) (by unfold Func.isWrapper; first | (rw [if_pos (by decide +kernel)]; kernel_rfl) | (rw [if_neg (by decide +kernel)]; exact ⟨rfl,rfl⟩))
    (fun os started H enc _=>detectMoved_lifted os started H enc)
#print axioms detectMoved_holds
end Go.Proofs.YtipfobacinmoiaaGreat
