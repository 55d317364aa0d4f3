/- Part of a proof: laws and walks. -/
import Derived.Test.YtgakdmmmljdpjaaDoorTac
import Derived.Test.YtgakdmmmljdpjaaDoorProg
import Derived.LaidEqlPtr
set_option linter.unusedVariables false
set_option linter.unusedSimpArgs false
namespace Go.SL
open Go
structure Dg where
  num:Int
  yr:Int
  half:Int
  sec:Int
  cyc:Int
theorem Dg.ext_iff' {a b:Dg}:a=b↔(a.num=b.num∧a.yr=b.yr∧a.half=b.half∧a.sec=b.sec∧a.cyc=b.cyc):=by
  cases a; cases b; simp
instance:DecidableEq Dg:=fun a b=>decidable_of_iff _ Dg.ext_iff'.symm
instance:Inhabited Dg:=⟨⟨0,0,0,0,0⟩⟩
structure Ch where
  kind:Int
  a:Dg
  b:Dg
  n:Int
theorem Ch.ext_iff' {x y:Ch}:x=y↔(x.kind=y.kind∧x.a=y.a∧x.b=y.b∧x.n=y.n):=by
  cases x; cases y; simp
instance:DecidableEq Ch:=fun a b=>decidable_of_iff _ Ch.ext_iff'.symm
instance:Inhabited Ch:=⟨⟨0,default,default,0⟩⟩
def eD (d:Dg):List Value:=[.int .i64 d.num,.int .i64 d.yr,.int .u8 d.half,.int .u8 d.sec,.int .i64 d.cyc]
def dV (d:Dg):Value:=.agg #[.int .i64 d.num,.int .i64 d.yr,.int .u8 d.half,.int .u8 d.sec,.int .i64 d.cyc]
def eC (c:Ch):List Value:=[.int .u8 c.kind,.int .i64 c.a.num,.int .i64 c.a.yr,.int .u8 c.a.half,.int .u8 c.a.sec,.int .i64 c.a.cyc,.int .i64 c.b.num,.int .i64 c.b.yr,.int .u8 c.b.half,.int .u8 c.b.sec,.int .i64 c.b.cyc,.int .i64 c.n]
def cV (c:Ch):Value:=.agg #[.int .u8 c.kind,.int .i64 c.a.num,.int .i64 c.a.yr,.int .u8 c.a.half,.int .u8 c.a.sec,.int .i64 c.a.cyc,.int .i64 c.b.num,.int .i64 c.b.yr,.int .u8 c.b.half,.int .u8 c.b.sec,.int .i64 c.b.cyc,.int .i64 c.n]
abbrev aD (d:Dg):Array Value:=#[.int .i64 d.num,.int .i64 d.yr,.int .u8 d.half,.int .u8 d.sec,.int .i64 d.cyc]
abbrev aC (c:Ch):Array Value:=#[.int .u8 c.kind,.int .i64 c.a.num,.int .i64 c.a.yr,.int .u8 c.a.half,.int .u8 c.a.sec,.int .i64 c.a.cyc,.int .i64 c.b.num,.int .i64 c.b.yr,.int .u8 c.b.half,.int .u8 c.b.sec,.int .i64 c.b.cyc,.int .i64 c.n]
theorem eD_len (d:Dg):(eD d).length=5:=rfl
theorem eC_len (c:Ch):(eC c).length=12:=rfl
structure Grp where
  blk:Nat
  v:Value
  all:List Dg
  num:Bool
def ptrV (b:Nat):Value:=.pointer (some ⟨b,0,none⟩)
def grA (TG TD:TypeId) (g:Grp):Asr:=bigA [pt g.blk (.cells #[g.v,.bool g.num] TG (0,0)),slE TD 5 eD g.v g.all]
def stA (TG TD:TypeId) (bm:Nat) (kvs:List (Dg × Value)) (gs:List Grp):Asr:=bigA (mp dV bm kvs::gs.map (grA TG TD))
structure Look (kvs:List (Dg × Value)) (gs:List Grp):Prop where
  keys:(kvs.map (·.1)).Nodup
  hit:∀ g ∈ gs,∀ d ∈ g.all,getP d kvs=some (ptrV g.blk)
  miss:∀ d,(∀ g ∈ gs,d ∉ g.all)→getP d kvs=none
  apart:gs.Pairwise (fun g g'=>∀ d ∈ g.all,d ∉ g'.all)
  blks:(gs.map (·.blk)).Nodup
  some_:∀ g ∈ gs,g.all≠[]
  each:∀ g ∈ gs,g.all.Nodup
section
variable {TG TD:TypeId} {w0 w:World} {X:Nat→Prop} {B M N:List Asr} {bm:Nat} {kvs:List (Dg × Value)} {gs gs':List Grp} {g g1 g2:Grp}
theorem St.stOpen (hS:St w0 w X B (stA TG TD bm kvs gs::M)):St w0 w X B (mp dV bm kvs::bigA (gs.map (grA TG TD))::M):=St.bigCons (N:=[]) hS
theorem St.stNew {kvs:List (Dg × Value)} (hS:St w0 w X B (mp dV bm kvs::M)):St w0 w X B (stA TG TD bm kvs []::M):=by
  have h:St w0 w X B ([]++([mp dV bm kvs]++M)):=hS
  exact h.bigClose
theorem St.stClose (hS:St w0 w X B (mp dV bm kvs::bigA (gs.map (grA TG TD))::M)):St w0 w X B (stA TG TD bm kvs gs::M):=St.bigUncons (N:=[]) hS
theorem St.grTake {p:Asr} (hS:St w0 w X B (p::bigA (gs.map (grA TG TD))::M)) (hp:gs.Perm (g::gs')) :
    St w0 w X B (p::pt g.blk (.cells #[g.v,.bool g.num] TG (0,0))::slE TD 5 eD g.v g.all::bigA (gs'.map (grA TG TD))::M):=by
  have h1:=hS.bigPerm (i:=1) rfl (hp.map (grA TG TD))
  have h2:St w0 w X B ([p]++bigA (grA TG TD g::gs'.map (grA TG TD))::M):=h1
  have h3:=h2.bigCons
  have h4:St w0 w X B ([p]++bigA [pt g.blk (.cells #[g.v,.bool g.num] TG (0,0)),slE TD 5 eD g.v g.all]::(bigA (gs'.map (grA TG TD))::M)):=h3
  exact h4.bigOpen
theorem St.grPut {p:Asr} (hS:St w0 w X B (p::pt g.blk (.cells #[g.v,.bool g.num] TG (0,0))::slE TD 5 eD g.v g.all::bigA (gs.map (grA TG TD))::M)) :
    St w0 w X B (p::bigA ((g::gs).map (grA TG TD))::M):=by
  have h1:St w0 w X B ([p]++([pt g.blk (.cells #[g.v,.bool g.num] TG (0,0)),slE TD 5 eD g.v g.all]++(bigA (gs.map (grA TG TD))::M))):=hS
  have h2:=h1.bigClose
  have h3:St w0 w X B ([p]++grA TG TD g::bigA (gs.map (grA TG TD))::M):=h2
  exact h3.bigUncons
theorem St.grTake2 {p:Asr} (hS:St w0 w X B (p::bigA (gs.map (grA TG TD))::M)) (hp:gs.Perm (g1::g2::gs')) :
    St w0 w X B (p::pt g1.blk (.cells #[g1.v,.bool g1.num] TG (0,0))::slE TD 5 eD g1.v g1.all::pt g2.blk (.cells #[g2.v,.bool g2.num] TG (0,0))::slE TD 5 eD g2.v g2.all::bigA (gs'.map (grA TG TD))::M):=by
  have h1:=hS.grTake hp
  have h2:St w0 w X B ([p,pt g1.blk (.cells #[g1.v,.bool g1.num] TG (0,0)),slE TD 5 eD g1.v g1.all]++bigA (grA TG TD g2::gs'.map (grA TG TD))::M):=h1
  have h3:=h2.bigCons
  have h4:St w0 w X B ([p,pt g1.blk (.cells #[g1.v,.bool g1.num] TG (0,0)),slE TD 5 eD g1.v g1.all]++bigA [pt g2.blk (.cells #[g2.v,.bool g2.num] TG (0,0)),slE TD 5 eD g2.v g2.all]::(bigA (gs'.map (grA TG TD))::M)):=h3
  exact h4.bigOpen
end
section
variable {r:Option Nat} {P:Program} {w w0:World} {X:Nat→Prop} {B M:List Asr} {n:Nat} {ds:List Deferred} {L:List (Nat × Value)} {ty t:TypeId} {x y:Operand} {TG TD:TypeId} {gs:List Grp} {i j b q sz:Nat} {o:Obj} {u v:Value} {te:TypeId}
theorem St.freshB (hS:St w0 w X B M) (hi:M[i]? = some (pt b o)) (hj:M[j]? = some (bigA (gs.map (grA TG TD)))) (hij:i≠j):∀ g ∈ gs,g.blk≠b:=fun g hg e=>by
  refine hS.sep.disj hi hj hij b rfl ⟨grA TG TD g,List.mem_map.2 ⟨g,hg,rfl⟩,pt g.blk _,List.mem_cons_self,e.symm⟩
theorem run_eqNil (hu:P.underlying t=some (.pointer te)) (p:Option Addr):(Op.equal t (.pointer p) (.pointer none)).run P w=.ok p.isNone w:=by
  have:∀ d:Nat,(Op.equalIn (d+1) t (.pointer p) (.pointer none)).run P w=.ok p.isNone w:=fun d=>by
    cases p <;> simp [Op.equalIn,run_underlying hu]
  exact this 9999
theorem RunV.eqNil {t2:TypeId} (hu:P.underlying t=some (.pointer te)) {p:Option Addr} (hx:ev L x=some (.pointer p)) (hy:ev L y=some (.pointer none)):RunV P n ds L (.binOp .eql t x y t2) ty w (.bool p.isNone) w:=fun a d pos af g hf=>by
  simp only [execOp,hf.eval hx,hf.eval hy]
  have e1:(eqGuard .eql t x y (.pointer p) (.pointer none)).run P w=.ok () w:=by simp [eqGuard]
  have e2:(binOp .eql t (.pointer p) (.pointer none)).run P w=.ok (.bool p.isNone) w:=by
    simp only [binOp,Sem.run_bind,run_eqNil hu p,Result.andThen_ok,Sem.run_pure]
  simp only [Sem.run_bind,e1,e2,Result.andThen_ok,Sem.run_pure]
theorem RunV.neNil {t2:TypeId} (hu:P.underlying t=some (.pointer te)) {p:Option Addr} (hx:ev L x=some (.pointer p)) (hy:ev L y=some (.pointer none)):RunV P n ds L (.binOp .neq t x y t2) ty w (.bool (!p.isNone)) w:=fun a d pos af g hf=>by
  simp only [execOp,hf.eval hx,hf.eval hy]
  have e1:(eqGuard .neq t x y (.pointer p) (.pointer none)).run P w=.ok () w:=by simp [eqGuard]
  have e2:(binOp .neq t (.pointer p) (.pointer none)).run P w=.ok (.bool (!p.isNone)) w:=by
    simp only [binOp,Sem.run_bind,run_eqNil hu p,Result.andThen_ok,Sem.run_pure]
  simp only [Sem.run_bind,e1,e2,Result.andThen_ok,Sem.run_pure]
theorem RunV.nePtr {t2:TypeId} {G:World→Nat→Prop} (hk:KeyOK P t ptrV G) {k k':Nat} (h1:G w k) (h2:G w k') (hx:ev L x=some (ptrV k)) (hy:ev L y=some (ptrV k')):RunV P n ds L (.binOp .neq t x y t2) ty w (.bool (!decide (k=k'))) w:=fun a d pos af g hf=>by
  simp only [execOp,hf.eval hx,hf.eval hy]
  have h:=hk.eqk k k' w h1 h2
  have e1:(eqGuard .neq t x y (ptrV k) (ptrV k')).run P w=.ok () w:=by simp [eqGuard,ptrV]
  have e2:(binOp .neq t (ptrV k) (ptrV k')).run P w=.ok (.bool (!decide (k=k'))) w:=by
    unfold ptrV at h ⊢
    simp only [binOp,Sem.run_bind,h,Result.andThen_ok,Sem.run_pure]
  simp only [Sem.run_bind,e1,e2,Result.andThen_ok,Sem.run_pure]
theorem RunV.toB {op:Op} {w2:World} {b c:Bool} (h:RunV P n ds L op ty w (.bool b) w2) (e:b=c):RunV P n ds L op ty w (.bool c) w2:=e▸h
theorem sl_snoc {T:Type} {e sz:Nat} {v:Value} {enc:T→List Value} {l:List T} {x:T}:sl e sz v (l.length+1) (encs enc l++enc x)=sl e sz v (l++[x]).length (encs enc (l++[x])):=by simp [encs]
theorem St.reE {p q:Asr} {M':List Asr} (hS:St w0 w X B M) (hi:M[i]? = some p) (e:p=q) (hM:M.set i q=M'):St w0 w X B M':=by
  subst e hM
  have:M.set i p=M:=List.ext_getElem? fun k=>by
    rw [List.getElem?_set]
    split
    · rename_i h; subst h
      split
      · exact hi.symm
      · rename_i h2; rw [List.getElem?_eq_none (by omega)]
    · rfl
  rw [this]; exact hS
theorem take_snoc {T:Type} [Inhabited T] {l:List T} {j:Nat} (h:j<l.length):l.take (j+1)=l.take j++[l.getD j default]:=by
  rw [List.take_add_one,List.getElem?_eq_getElem h]
  simp [List.getD_eq_getElem?_getD,List.getElem?_eq_getElem h]
theorem RunV.mkIface {fs:Array Field} (hu:P.underlying t=some (.struct fs)) (hx:ev L x=some u):RunV P n ds L (.makeInterface t x) ty w (.iface t u) w:=fun a d pos af g hf=>by
  simp only [execOp,hf.eval hx]
  refine run_v ?_
  unfold Instr.makeInterface
  simp only [Sem.run_bind,run_underlying hu,Result.andThen]
  rfl
theorem idx_getD {T:Type} [Inhabited T] {l:List T} {j:Nat} (h:j<l.length):idx l (j:Int)=some (l.getD j default):=by
  unfold idx
  simp [h,List.getD_eq_getElem?_getD]
theorem RunV.ldG {T:Type} [Inhabited T] {enc:T→List Value} {l:List T} {us:List Value} (ha:tAgg P t=some true) (hs:tSize P t=some q) (hq:Nat.blt 0 q=true) (henc:∀ x,(enc x).length=q) (hx:ev L x=some (ix v (j*q))) (hr:rdOK (hp w) q v l.length (encs enc l)) (hj:j<l.length) (hv:enc (l.getD j default)=us):RunV P n ds L (.load t x) ty w (.agg us.toArray) w:=by
  have h0:l[j]? = some (l.getD j default):=by simp [List.getD_eq_getElem?_getD,List.getElem?_eq_getElem hj]
  refine RunV.ldN ha hs hq hx hr (by rw [← hv,henc]) (fun k u hu=>?_)
  subst hv
  have hk:=(List.getElem?_eq_some_iff.1 hu).1
  rw [henc] at hk
  rw [encs_get henc h0 hk]
  exact hu
theorem RunV.ldG1 {T:Type} [Inhabited T] {enc:T→List Value} {l:List T} {o:Nat} (ha:tAgg P t=some false) (henc:∀ x,(enc x).length=sz) (hx:ev L x=some (ix v (j*sz+o))) (hr:rdOK (hp w) sz v l.length (encs enc l)) (hf:vfit v) (hj:j<l.length) (ho:Nat.blt o sz=true) (hv:(enc (l.getD j default))[o]? = some u):RunV P n ds L (.load t x) ty w u w :=
  RunV.ldE1 (p:=(j:Int)) ha henc (by simpa using hx) ⟨hr,hf⟩ (idx_getD hj) ho hv
end
abbrev PG:=List Dg × Bool
def findG (S:List PG) (d:Dg):Option PG:=S.find? (fun g=>decide (d ∈ g.1))
def addM (S:List PG) (c:Ch):Except Int (List PG) :=
  match findG S c.a with
  | some _=>.error 14
  | none=>.ok (([c.a],false)::S)
def merged (x y:PG):PG:=if x.1.length<y.1.length then (y.1++x.1,y.2||x.2) else (x.1++y.1,x.2||y.2)
def joinM (S:List PG) (c:Ch):Except Int (List PG) :=
  match findG S c.a,findG S c.b with
  | some x,some y=>if x=y∨(x.2&&y.2)=true then .error 36 else .ok (merged x y::S.filter (fun g=>!decide (c.b ∈ g.1)&&!decide (c.a ∈ g.1)))
  | _,_=>.error 6
def nameM (S:List PG) (c:Ch):Except Int (List PG) :=
  match findG S c.a with
  | none=>.error 6
  | some x=>match findG S c.b with
    | some _=>.error 14
    | none=>if x.2=true then .error 36 else .ok ((x.1++[c.b],true)::S.filter (fun g=>!decide (c.a ∈ g.1)))
def stepM (S:List PG) (c:Ch):Except Int (List PG):=if c.kind=1 then addM S c else if c.kind=2 then joinM S c else nameM S c
def absG (g:Grp):PG:=(g.all,g.num)
def IsS (kvs:List (Dg × Value)) (gs:List Grp) (S:List PG):Prop:=Look kvs gs∧gs.map absG=S
section
variable {kvs:List (Dg × Value)} {gs rest:List Grp} {S:List PG} {g g':Grp} {d:Dg}
theorem Look.uniq (h:Look kvs gs) (hg:g ∈ gs) (hg':g' ∈ gs) (hd:d ∈ g.all) (hd':d ∈ g'.all):g=g':=by
  obtain ⟨i,hi,rfl⟩:=List.mem_iff_getElem.1 hg
  obtain ⟨j,hj,rfl⟩:=List.mem_iff_getElem.1 hg'
  rcases Nat.lt_trichotomy i j with h1 | h1 | h1
  · exact absurd hd' (List.pairwise_iff_getElem.1 h.apart i j hi hj h1 d hd)
  · subst h1; rfl
  · exact absurd hd (List.pairwise_iff_getElem.1 h.apart j i hj hi h1 d hd')
theorem find_absG:∀ {gs:List Grp},findG (gs.map absG) d=(gs.find? (fun g=>decide (d ∈ g.all))).map absG
  | []=>rfl
  | g::t=>by
    simp only [findG,List.map_cons,List.find?_cons,absG]
    cases decide (d ∈ g.all) with
    | true=>rfl
    | false=>exact find_absG (gs:=t)
theorem find_cases (gs:List Grp) (d:Dg):(∃ g ∈ gs,d ∈ g.all∧findG (gs.map absG) d=some (absG g))∨((∀ g ∈ gs,d ∉ g.all)∧findG (gs.map absG) d=none):=by
  rw [find_absG]
  cases h:gs.find? (fun g=>decide (d ∈ g.all)) with
  | none =>
    right
    rw [List.find?_eq_none] at h
    exact ⟨fun g hg hd=>h g hg (by simpa using hd),rfl⟩
  | some g =>
    left
    have:=List.find?_some h
    exact ⟨g,List.mem_of_find?_eq_some h,by simpa using this,rfl⟩
theorem perm_take:∀ {gs:List Grp},g ∈ gs→gs.Pairwise (fun g g'=>∀ d ∈ g.all,d ∉ g'.all)→d ∈ g.all→gs.Perm (g::gs.filter (fun x=>!decide (d ∈ x.all)))
  | x::t,hg,hp,hd=>by
    rw [List.pairwise_cons] at hp
    rcases List.mem_cons.1 hg with rfl | hg
    · have:t.filter (fun x=>!decide (d ∈ x.all))=t:=by
        rw [List.filter_eq_self]
        intro y hy
        simpa using hp.1 y hy d hd
      simp [hd,this]
    · have hx:d ∉ x.all:=fun h=>hp.1 g hg d h hd
      have ih:=perm_take hg hp.2 hd
      simp only [List.filter_cons,hx,decide_false,Bool.not_false,if_true]
      exact (ih.cons x).trans (List.Perm.swap g x _)
theorem Look.perm (h:Look kvs gs) (hp:gs.Perm rest):Look kvs rest :=
  ⟨h.keys,fun g hg=>h.hit g (hp.mem_iff.2 hg),fun d hd=>h.miss d (fun g hg=>hd g (hp.mem_iff.1 hg)),
   (hp.pairwise_iff (fun {a b} hab d hb ha=>hab d ha hb)).1 h.apart,(hp.map _).nodup_iff.1 h.blks,fun g hg=>h.some_ g (hp.mem_iff.2 hg),fun g hg=>h.each g (hp.mem_iff.2 hg)⟩
theorem Look.add (h:Look kvs gs) (hd:∀ g ∈ gs,d ∉ g.all) (hb:∀ g' ∈ gs,g'.blk≠g.blk) (ha:g.all=[d]):Look (setP d (ptrV g.blk) kvs) (g::gs):=by
  refine ⟨nodup_setP h.keys,?_,?_,?_,?_,?_,?_⟩
  · intro x hx e he
    rw [getP_setP]
    rcases List.mem_cons.1 hx with rfl | hx
    · rw [ha,List.mem_singleton] at he; rw [if_pos he]
    · rw [if_neg (fun e'=>hd x hx (by rw [← e']; exact he))]; exact h.hit x hx e he
  · intro e he
    rw [getP_setP,if_neg (fun e'=>he g List.mem_cons_self (by rw [ha,e']; simp))]
    exact h.miss e (fun x hx=>he x (List.mem_cons_of_mem _ hx))
  · rw [List.pairwise_cons]
    refine ⟨fun x hx e he hex=>?_,h.apart⟩
    rw [ha,List.mem_singleton] at he; subst he; exact hd x hx hex
  · simp only [List.map_cons,List.nodup_cons]
    refine ⟨fun hm=>?_,h.blks⟩
    obtain ⟨x,hx,he⟩:=List.mem_map.1 hm
    exact hb x hx he
  · intro x hx
    rcases List.mem_cons.1 hx with rfl | hx
    · rw [ha]; simp
    · exact h.some_ x hx
  · intro x hx
    rcases List.mem_cons.1 hx with rfl | hx
    · rw [ha]; simp
    · exact h.each x hx
theorem perm_take2 {ga gb:Grp} {a b:Dg} (ha:ga ∈ gs) (hb:gb ∈ gs) (hp:gs.Pairwise (fun g g'=>∀ d ∈ g.all,d ∉ g'.all)) (h1:a ∈ ga.all) (h2:b ∈ gb.all) (hne:a ∉ gb.all) :
    gs.Perm (ga::gb::gs.filter (fun x=>!decide (b ∈ x.all)&&!decide (a ∈ x.all))):=by
  have e1:=perm_take ha hp h1
  have hb':gb ∈ gs.filter (fun x=>!decide (a ∈ x.all)):=by
    rw [List.mem_filter]; exact ⟨hb,by simpa using hne⟩
  have e2:=perm_take hb' (hp.sublist List.filter_sublist) h2
  rw [List.filter_filter] at e2
  exact e1.trans (e2.cons ga)
theorem filter_absG (p:PG→Bool):∀ gs:List Grp,(gs.filter (fun g=>p (absG g))).map absG=(gs.map absG).filter p
  | []=>rfl
  | g::t=>by
    simp only [List.filter_cons,List.map_cons]
    split
    · simp [filter_absG p t]
    · exact filter_absG p t
def putAll (kvs:List (Dg × Value)) (v:Value):List Dg→List (Dg × Value)
  | []=>kvs
  | d::t=>putAll (setP d v kvs) v t
theorem putAll_snoc {v:Value}:∀ {l:List Dg} {kvs:List (Dg × Value)} {d:Dg},putAll kvs v (l++[d])=setP d v (putAll kvs v l)
  | [],_,_=>rfl
  | x::t,kvs,d=>putAll_snoc (l:=t) (kvs:=setP x v kvs)
theorem getP_putAll {v:Value} {e:Dg}:∀ {l:List Dg} {kvs:List (Dg × Value)},getP e (putAll kvs v l)=if e ∈ l then some v else getP e kvs
  | [],_=>by simp [putAll]
  | x::t,kvs=>by
    simp only [putAll]
    rw [getP_putAll (l:=t),getP_setP]
    by_cases h1:e ∈ t
    · simp [h1]
    · by_cases h2:e=x
      · simp [h2]
      · simp [h1,h2]
theorem nodup_putAll {v:Value}:∀ {l:List Dg} {kvs:List (Dg × Value)},(kvs.map (·.1)).Nodup→((putAll kvs v l).map (·.1)).Nodup
  | [],_,h=>h
  | _::t,_,h=>nodup_putAll (l:=t) (nodup_setP h)
theorem Look.join {ga gb:Grp} {va:Value} {nm:Bool} (h:Look kvs (ga::gb::rest)):Look (putAll kvs (ptrV ga.blk) gb.all) (⟨ga.blk,va,ga.all++gb.all,nm⟩::rest):=by
  have hap:=h.apart
  rw [List.pairwise_cons] at hap
  obtain ⟨ha1,ha2⟩:=hap
  rw [List.pairwise_cons] at ha2
  have hbl:=h.blks
  simp only [List.map_cons,List.nodup_cons] at hbl
  refine ⟨nodup_putAll h.keys,?_,?_,?_,?_,?_,?_⟩
  · intro x hx e he
    rw [getP_putAll]
    rcases List.mem_cons.1 hx with rfl | hx
    · rcases List.mem_append.1 he with h1 | h1
      · rw [if_neg (ha1 gb (by simp) e h1)]; exact h.hit ga (by simp) e h1
      · rw [if_pos h1]
    · rw [if_neg (fun h1=>ha2.1 x hx e h1 he)]; exact h.hit x (by simp [hx]) e he
  · intro e he
    have h1:=he _ List.mem_cons_self
    simp only [List.mem_append,not_or] at h1
    rw [getP_putAll,if_neg h1.2]
    refine h.miss e (fun x hx=>?_)
    rcases List.mem_cons.1 hx with rfl | hx
    · exact h1.1
    · rcases List.mem_cons.1 hx with rfl | hx
      · exact h1.2
      · exact he x (List.mem_cons_of_mem _ hx)
  · rw [List.pairwise_cons]
    refine ⟨fun x hx e he=>?_,ha2.2⟩
    rcases List.mem_append.1 he with h1 | h1
    · exact ha1 x (by simp [hx]) e h1
    · exact ha2.1 x hx e h1
  · simp only [List.map_cons,List.nodup_cons]
    exact ⟨fun hm=>hbl.1 (by simp only [List.mem_cons]; exact .inr hm),hbl.2.2⟩
  · intro x hx
    rcases List.mem_cons.1 hx with rfl | hx
    · simp [h.some_ ga (by simp)]
    · exact h.some_ x (by simp [hx])
  · intro x hx
    rcases List.mem_cons.1 hx with rfl | hx
    · show (ga.all++gb.all).Nodup
      rw [List.nodup_append]
      exact ⟨h.each ga (by simp),h.each gb (by simp),fun u hu v hv e=>ha1 gb (by simp) u hu (e▸hv)⟩
    · exact h.each x (by simp [hx])
theorem Look.name {ga:Grp} {va:Value} {nm:Bool} (h:Look kvs (ga::rest)) (hd:∀ g ∈ ga::rest,d ∉ g.all):Look (setP d (ptrV ga.blk) kvs) (⟨ga.blk,va,ga.all++[d],nm⟩::rest):=by
  have hap:=h.apart
  rw [List.pairwise_cons] at hap
  refine ⟨nodup_setP h.keys,?_,?_,?_,?_,?_,?_⟩
  · intro x hx e he
    rw [getP_setP]
    rcases List.mem_cons.1 hx with rfl | hx
    · rcases List.mem_append.1 he with h1 | h1
      · rw [if_neg (fun e'=>hd ga (by simp) (by rw [← e']; exact h1))]; exact h.hit ga (by simp) e h1
      · rw [List.mem_singleton] at h1; rw [if_pos h1]
    · rw [if_neg (fun e'=>hd x (by simp [hx]) (by rw [← e']; exact he))]; exact h.hit x (by simp [hx]) e he
  · intro e he
    have h1:=he _ List.mem_cons_self
    simp only [List.mem_append,List.mem_singleton,not_or] at h1
    rw [getP_setP,if_neg h1.2]
    refine h.miss e (fun x hx=>?_)
    rcases List.mem_cons.1 hx with rfl | hx
    · exact h1.1
    · exact he x (List.mem_cons_of_mem _ hx)
  · rw [List.pairwise_cons]
    refine ⟨fun x hx e he=>?_,hap.2⟩
    rcases List.mem_append.1 he with h1 | h1
    · exact hap.1 x hx e h1
    · rw [List.mem_singleton] at h1; subst h1; exact hd x (by simp [hx])
  · exact h.blks
  · intro x hx
    rcases List.mem_cons.1 hx with rfl | hx
    · simp
    · exact h.some_ x (by simp [hx])
  · intro x hx
    rcases List.mem_cons.1 hx with rfl | hx
    · show (ga.all++[d]).Nodup
      rw [List.nodup_append]
      exact ⟨h.each ga (by simp),by simp,fun u hu v hv e=>by simp only [List.mem_singleton] at hv; subst hv; subst e; exact hd ga (by simp) hu⟩
    · exact h.each x (by simp [hx])
end
end Go.SL

namespace Go.Proofs.YtgakdmmmljdpjaaDoor
open Go Go.SL
theorem K_agg3:tAgg Tryd.prog 3=some false:=by kernel_rfl
theorem K_agg5:tAgg Tryd.prog 5=some false:=by kernel_rfl
theorem K_int3:tInt Tryd.prog 3=some .i64:=by kernel_rfl
theorem K_int5:tInt Tryd.prog 5=some .u8:=by kernel_rfl
theorem K_fs24:tFs Tryd.prog 24=some [(3,0),(3,1),(5,2),(5,3),(3,4)]:=by kernel_rfl
theorem key_int {n:Nat} {t:TypeId} {q k:IntKind} {z:Int} (h:Tryd.prog.underlying t=some (.int q)) (b:Bool) (w:World):(Instr.checkKey b (n+1) t (.int k z)).run Tryd.prog w=.ok () w:=by
  unfold Instr.checkKey
  simp only [Sem.run_bind,run_underlying h,Result.andThen]
  rfl
theorem part_of {t:TypeId} {cs:Array Value} {o:Nat} {v:Value} (ha:tAgg Tryd.prog t=some false) (hv:cs[o]? = some v) (w:World):(part t cs o).run Tryd.prog w=.ok v w:=PartR.one ha hv w
theorem keyD:KeyOK Tryd.prog 24 dV (fun _ _=>True) where
  chk:=fun d b w=>by
    unfold Instr.checkKey dV
    simp only [Sem.run_bind,run_underlying Tryd.underlying24,Result.andThen]
    have h0:=part_of (cs:=#[.int .i64 d.num,.int .i64 d.yr,.int .u8 d.half,.int .u8 d.sec,.int .i64 d.cyc]) (o:=0) K_agg3 rfl w
    have h1:=part_of (cs:=#[.int .i64 d.num,.int .i64 d.yr,.int .u8 d.half,.int .u8 d.sec,.int .i64 d.cyc]) (o:=1) K_agg3 rfl w
    have h2:=part_of (cs:=#[.int .i64 d.num,.int .i64 d.yr,.int .u8 d.half,.int .u8 d.sec,.int .i64 d.cyc]) (o:=2) K_agg5 rfl w
    have h3:=part_of (cs:=#[.int .i64 d.num,.int .i64 d.yr,.int .u8 d.half,.int .u8 d.sec,.int .i64 d.cyc]) (o:=3) K_agg5 rfl w
    have h4:=part_of (cs:=#[.int .i64 d.num,.int .i64 d.yr,.int .u8 d.half,.int .u8 d.sec,.int .i64 d.cyc]) (o:=4) K_agg3 rfl w
    have u3:Tryd.prog.underlying 3=some (.int .i64):=Tryd.underlying3
    have u5:Tryd.prog.underlying 5=some (.int .u8):=Tryd.underlying5
    have c3:∀ z,(Instr.checkKey b 9999 3 (.int .i64 z)).run Tryd.prog w=.ok () w:=fun z=>key_int u3 b w
    have c5:∀ z,(Instr.checkKey b 9999 5 (.int .u8 z)).run Tryd.prog w=.ok () w:=fun z=>key_int u5 b w
    simp [Sem.run_bind,h0,h1,h2,h3,h4,c3,c5,Result.andThen]
  und:=⟨_,Tryd.underlying24,fun k k'=>rfl⟩
  eqk:=fun k k' w _ _=>by
    have h:=(EqR.struct (P:=Tryd.prog) (d:=9999) K_fs24
      (EqL.cons (PartR.one (v:=.int .i64 k.num) K_agg3 rfl) (PartR.one (v:=.int .i64 k'.num) K_agg3 rfl) (EqR.int K_int3)
      (EqL.cons (PartR.one (v:=.int .i64 k.yr) K_agg3 rfl) (PartR.one (v:=.int .i64 k'.yr) K_agg3 rfl) (EqR.int K_int3)
      (EqL.cons (PartR.one (v:=.int .u8 k.half) K_agg5 rfl) (PartR.one (v:=.int .u8 k'.half) K_agg5 rfl) (EqR.int K_int5)
      (EqL.cons (PartR.one (v:=.int .u8 k.sec) K_agg5 rfl) (PartR.one (v:=.int .u8 k'.sec) K_agg5 rfl) (EqR.int K_int5)
      (EqL.cons (PartR.one (v:=.int .i64 k.cyc) K_agg3 rfl) (PartR.one (v:=.int .i64 k'.cyc) K_agg3 rfl) (EqR.int K_int3)
      EqL.nil))))):EqR Tryd.prog 10000 24 (dV k) (dV k') _) w
    have e:(k.num == k'.num&&(k.yr == k'.yr&&(k.half == k'.half&&(k.sec == k'.sec&&(k.cyc == k'.cyc&&true)))))=decide (k=k'):=by
      rw [Bool.eq_iff_iff,decide_eq_true_iff,Dg.ext_iff']
      simp only [Bool.and_eq_true,beq_iff_eq,and_true]
    rw [← e]
    exact h
  bits:=fun k=>by simp [dV,Instr.sameBits]
def cellAt (w:World) (b:Nat):Prop:=∃ cs t,w.heap[b]? = some (.cells cs t (0,0))
theorem keyG:KeyOK Tryd.prog 79 ptrV cellAt where
  chk:=fun d b w=>by
    unfold Instr.checkKey ptrV
    simp only [Sem.run_bind,run_underlying Tryd.underlying79,Result.andThen]
    rfl
  und:=⟨_,Tryd.underlying79,fun k k'=>rfl⟩
  eqk:=fun k k' w hk hk'=>by
    have hs:tSize Tryd.prog 95=some 2:=by kernel_rfl
    show (Op.equalIn 10000 79 (ptrV k) (ptrV k')).run Tryd.prog w=_
    by_cases h:k=k'
    · subst h
      have:∀ d:Nat,(Op.equalIn (d+1) 79 (ptrV k) (ptrV k)).run Tryd.prog w=.ok true w:=fun d=>by
        simp [Op.equalIn,run_underlying Tryd.underlying79,SL.run_sizeOf hs,ptrV,run_sameAddr_same]
      rw [this 9999,decide_eq_true rfl]
    · obtain ⟨c1,t1,h1⟩:=hk
      obtain ⟨c2,t2,h2⟩:=hk'
      have:∀ d:Nat,(Op.equalIn (d+1) 79 (ptrV k) (ptrV k')).run Tryd.prog w=.ok false w:=fun d=>by
        simp [Op.equalIn,run_underlying Tryd.underlying79,SL.run_sizeOf hs,ptrV,run_sameAddr_other w (a:=⟨k,0,none⟩) (b:=⟨k',0,none⟩) (fun e=>h (by cases e; rfl)) h1 h2]
      rw [this 9999,decide_eq_false h]
  bits:=fun k=>by simp [ptrV,Instr.sameBits]
end Go.Proofs.YtgakdmmmljdpjaaDoor
