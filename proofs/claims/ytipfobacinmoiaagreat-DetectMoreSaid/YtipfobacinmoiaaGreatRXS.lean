/- The sorted keys of a set, told as a whole. -/
import Derived.Test.YtipfobacinmoiaaGreatRX14
import Derived.Test.YtipfobacinmoiaaGreatDetMath
set_option linter.unusedVariables false
set_option linter.unusedSimpArgs false
namespace Go.RX
open Go Go.SL
structure SortedK (P:Program) (f nk:FuncId) (ti tset:TypeId):Prop where
  spec:∀ (b bm:Nat) (ins:List Bool) (w0:World),w0.heap[b]? = some (.cells #[.map (some bm)] tset (0,0))→setOK (hp w0) bm ins→ins.length≤10000 →
    Ret P f #[.func (.func nk) #[] #[.pointer (some ⟨b,0,none⟩)]] w0 (G:=Value) (fun v=>v) (fun v w=>St w0 w noX [] [SL.sl ti 1 v (Det.asc ins ins.length).length (ints (Det.asc ins ins.length))])
def isTrue (v:Value):Bool:=match asS v with
  | .b x=>x
  | .i _ _=>false
  | .s _=>false
  | .o=>false
theorem isTrue_ok {v:Value} (h:isTrue v=true):v=.bool true:=by
  unfold isTrue at h
  split at h
  · rename_i x hx; subst h; exact asS_b hx
  · cases h
  · cases h
  · cases h
def isI64 (v:Value):Option Int:=match asS v with
  | .i k n=>match kEq k .i64 with
    | true=>some n
    | false=>none
  | .b _=>none
  | .s _=>none
  | .o=>none
theorem isI64_ok {v:Value} {n:Int} (h:isI64 v=some n):v=.int .i64 n:=by
  unfold isI64 at h
  split at h
  · rename_i k m hm
    split at h
    · rename_i hk
      simp only [Option.some.injEq] at h
      subst h
      rw [asS_i hm,kEq_ok hk]
    · cases h
  · cases h
  · cases h
  · cases h
def keysI:List (V × V)→Option (List Int)
  | []=>some []
  | (k,v)::t=>match asC k with
    | none=>none
    | some a=>match asC v with
      | none=>none
      | some b=>match isTrue b with
        | false=>none
        | true=>match isI64 a with
          | none=>none
          | some n=>match keysI t with
            | none=>none
            | some l=>some (n::l)
theorem keysI_ok {ρ:Env}:∀ {l:List (V × V)} {es:List MapEntry} {ks:List Int},KVR ρ l (es.map kvE)→keysI l=some ks→es.map (·.key)=ks.map (Value.int .i64)∧∀ e ∈ es,e.val=.bool true
  | [],[],ks,_,h=>by
    simp only [keysI,Option.some.injEq] at h
    subst h; exact ⟨rfl,by simp⟩
  | [],_::_,_,h,_=>by cases h
  | _::_,[],_,h,_=>by cases h
  | (k,v)::t,e::es,ks,h,hk=>by
    simp only [List.map_cons,kvE] at h
    cases h with
    | cons h1 h2 ht =>
      simp only [keysI] at hk
      split at hk
      · cases hk
      · rename_i a ha
        split at hk
        · cases hk
        · rename_i b hb
          split at hk
          · cases hk
          · rename_i hv
            split at hk
            · cases hk
            · rename_i n hn
              split at hk
              · cases hk
              · rename_i l' hl
                simp only [Option.some.injEq] at hk
                subst hk
                have:=asC_some ha
                subst this
                have:=asC_some hb
                subst this
                obtain ⟨g1,g2⟩:=keysI_ok ht hl
                cases h1 with
                | c=>cases h2 with
                  | c =>
                    refine ⟨by simp only [List.map_cons,g1,isI64_ok hn],fun e' he=>?_⟩
                    rcases List.mem_cons.1 he with rfl | he
                    · exact isTrue_ok hv
                    · exact g2 e' he
def topK:List Int→Nat
  | []=>0
  | k::t=>Nat.max (k.toNat+1) (topK t)
def hasK (i:Nat):List Int→Bool
  | []=>false
  | k::t=>match decide (k=(i:Int)) with
    | true=>true
    | false=>hasK i t
def insK (ks:List Int) (n:Nat):List Bool:=(List.range n).map fun i=>hasK i ks
def nodupI:List Int→Bool
  | []=>true
  | k::t=>decide (0≤k)&&(!(t.any fun x=>decide (x=k))&&nodupI t)
theorem hasK_iff {i:Nat}:∀ {ks:List Int},hasK i ks=true↔(i:Int) ∈ ks
  | []=>by simp [hasK]
  | k::t=>by
    simp only [hasK,List.mem_cons]
    split
    · rename_i h; have:=of_decide_eq_true h; simp [this]
    · rename_i h
      have h:=of_decide_eq_false h
      rw [hasK_iff]
      constructor
      · exact .inr
      · rintro (h1 | h1)
        · exact absurd h1.symm h
        · exact h1
theorem topK_le {k:Int}:∀ {ks:List Int},k ∈ ks→k.toNat<topK ks
  | [],h=>by cases h
  | x::t,h=>by
    have hm:topK (x::t)=max (x.toNat+1) (topK t):=rfl
    rw [hm]
    rcases List.mem_cons.1 h with rfl | h
    · exact Nat.lt_of_lt_of_le (Nat.lt_succ_self _) (Nat.le_max_left _ _)
    · exact Nat.lt_of_lt_of_le (topK_le h) (Nat.le_max_right _ _)
theorem nodupI_ok:∀ {ks:List Int},nodupI ks=true→ks.Nodup∧∀ k ∈ ks,0≤k
  | [],_=>⟨.nil,by simp⟩
  | k::t,h=>by
    simp only [nodupI,Bool.and_eq_true,decide_eq_true_eq,Bool.not_eq_true',List.any_eq_false] at h
    obtain ⟨h1,h2,h3⟩:=h
    obtain ⟨g1,g2⟩:=nodupI_ok h3
    exact ⟨List.nodup_cons.2 ⟨fun hm=>h2 k hm rfl,g1⟩,fun x hx=>by
      rcases List.mem_cons.1 hx with rfl | hx
      · exact h1
      · exact g2 x hx⟩
theorem set_of {ρ:Env} {l:List (V × V)} {kvs:List (Value × Value)} {h:Hp} {b:Nat} {ks:List Int} (hm:mpOK h b kvs) (hr:KVR ρ l kvs) (hk:keysI l=some ks) (hn:nodupI ks=true):setOK h b (insK ks (topK ks)):=by
  obtain ⟨es,c,h1,rfl,h3,h4⟩:=hm
  obtain ⟨g1,g2⟩:=keysI_ok hr hk
  obtain ⟨g3,g4⟩:=nodupI_ok hn
  refine ⟨es,c,ks,h1,⟨g1,g2,h3,h4,g3⟩,g4,fun i=>?_⟩
  rw [← hasK_iff]
  simp only [insK,List.getD_eq_getElem?_getD,List.getElem?_map]
  by_cases hi:i<topK ks
  · simp [hi]
  · have:hasK i ks=false:=by
      cases hh:hasK i ks with
      | false=>rfl
      | true=>exact absurd (topK_le (hasK_iff.1 hh)) (by simpa using hi)
    simp [hi,this]
def cellMap:Ent→Option (Nat × TypeId)
  | .cel l ty=>match l with
    | u::t=>match t with
      | []=>match u with
        | .mp m=>some (m,ty)
        | _=>none
      | _=>none
    | []=>none
  | _=>none
def gSorted (nk:FuncId) (ti tset:TypeId):List (Nat × Ent)→List V→List (Nat × Ent)→Nat→R An:=fun B vs H nx=>match vs with
  | [.fn nk' [.p e 0]]=>match Nat.beq nk' nk with
    | false=>R.fail
    | true=>match (rdA ⟨.e,H,0,[]⟩ B e).bind cellMap with
      | none=>R.fail
      | some (m,ty)=>match Nat.beq ty tset with
        | false=>R.fail
        | true=>match rdA ⟨.e,H,0,[]⟩ B m with
          | some (.map l)=>match keysI l with
            | none=>R.fail
            | some ks=>match nodupI ks&&Nat.ble (topK ks) 10000 with
              | false=>R.fail
              | true=>R.pure ⟨.sl nx,(nx,.arr ti (.row 1) ((Det.asc (insK ks (topK ks)) (topK ks)).map fun i=>[V.c (.int .i64 i)]))::H,nx+1⟩
          | _=>R.fail
  | _=>R.fail
theorem rl_ints {ρ:Env}:∀ l:List Int,∃ ys:List (Row 1),RL ρ (Ck.row 1).cd (l.map fun i=>[V.c (.int .i64 i)]) ys∧encs (encW 1) ys=ints l
  | []=>⟨[],.nil,rfl⟩
  | i::t=>by
    obtain ⟨ys,h1,h2⟩:=rl_ints (ρ:=ρ) t
    refine ⟨⟨[.int .i64 i],rfl,rfl⟩::ys,.cons (.cons .c .nil) h1,?_⟩
    show [Value.int .i64 i]++encs (encW 1) ys=_
    rw [h2]; rfl
theorem gSorted_ok {P:Program} {f nk:FuncId} {ti tset:TypeId} (hs:SortedK P f nk ti tset) (w0:World) (X:Nat→Prop) (B:List (Nat × Ent)) (vs:List V) (H:List (Nat × Ent)) (nx:Nat):(gSorted nk ti tset B vs H nx).Ok (FunOK P w0 X B f vs H nx):=by
  unfold gSorted
  split
  · rename_i nk' e
    split
    · exact R.Ok.fail
    · rename_i hnk
      have:=Nat.eq_of_beq_eq_true hnk
      subst this
      split
      · exact R.Ok.fail
      · rename_i m ty hc
        split
        · exact R.Ok.fail
        · rename_i hty
          have:=Nat.eq_of_beq_eq_true hty
          subst this
          split
          · rename_i l hl
            split
            · exact R.Ok.fail
            · rename_i ks hks
              split
              · exact R.Ok.fail
              · rename_i hb
                simp only [Bool.and_eq_true] at hb
                refine R.Ok.pure ?_
                intro ρ BM M w vals hdom hv hB hH hst
                have hS:Sees ρ B ⟨.e,H,0,[]⟩ [] w:=⟨(fun k u h=>by rw [lkV_e] at h; cases h),fun e' ent he=>by
                  unfold rdA at he
                  split at he
                  · rename_i x hx
                    simp only [Option.some.injEq] at he
                    subst he
                    obtain ⟨p,h1,h2⟩:=hH.get hx
                    cases x with
                    | cel l ty=>obtain ⟨b,cs,h3,h4,rfl⟩:=h2; exact ⟨b,cs,h3,h4,hst.ptAt h1⟩
                    | arr ty k xs=>obtain ⟨v,ys,h3,h4,rfl⟩:=h2; exact ⟨v,ys,h3,h4,hst.rdS h1⟩
                    | loop z=>trivial
                    | mark=>trivial
                    | map l=>obtain ⟨b,kvs,h3,h4,rfl⟩:=h2; exact ⟨b,kvs,h3,h4,hst.at_ h1⟩
                    | gl g l ty=>obtain ⟨cs,h3,h4,rfl⟩:=h2; exact ⟨cs,h4,hst.ptAt h1⟩
                  · obtain ⟨p,h1,h2⟩:=hB.get he
                    cases ent with
                    | cel l ty=>obtain ⟨b,cs,h3,h4,rfl⟩:=h2; exact ⟨b,cs,h3,h4,hst.bptAt h1⟩
                    | arr ty k xs=>obtain ⟨v,ys,h3,h4,rfl⟩:=h2; exact ⟨v,ys,h3,h4,hst.rdB h1⟩
                    | loop z=>trivial
                    | mark=>trivial
                    | map l=>obtain ⟨b,kvs,h3,h4,rfl⟩:=h2; exact ⟨b,kvs,h3,h4,hst.bat h1⟩
                    | gl g l ty=>obtain ⟨cs,h3,h4,rfl⟩:=h2; exact ⟨cs,h4,hst.bptAt h1⟩⟩
                obtain ⟨ent,he,hce⟩:=Option.bind_eq_some_iff.1 hc
                have hcell:ent=.cel [.mp m] ty:=by
                  unfold cellMap at hce
                  split at hce
                  · split at hce
                    · split at hce
                      · split at hce
                        · simp only [Option.some.injEq,Prod.mk.injEq] at hce
                          obtain ⟨rfl,rfl⟩:=hce
                          rfl
                        · cases hce
                      · cases hce
                    · cases hce
                  · cases hce
                subst hcell
                obtain ⟨b,cs,h1,h2,h3⟩:=hS.en e _ he
                obtain ⟨bm,kvs,h4,h5,h6⟩:=hS.en m _ hl
                cases h2 with
                | cons h2 ht=>cases ht with
                  | nil=>cases h2 with
                    | mp hh =>
                      rw [hh] at h4; injection h4 with h4; injection h4 with h4; injection h4 with h4; subst h4
                      cases hv with
                      | cons hv hvt=>cases hvt with
                        | nil=>cases hv with
                          | fn hcap=>cases hcap with
                            | cons hp hpt=>cases hpt with
                              | nil=>cases hp with
                                | p hpp =>
                                  rw [h1] at hpp; injection hpp with hpp; injection hpp with hpp; injection hpp with hpp; injection hpp with hpp _ _; subst hpp
                                  have hset:=set_of h6 h5 hks hb.1
                                  have hlen:(insK ks (topK ks)).length=topK ks:=by simp [insK]
                                  refine Calls.mono (hs.spec _ _ _ w h3 hset (by rw [hlen]; exact Nat.le_of_ble_eq_true hb.2)) ?_
                                  rintro e' w' ⟨v,rfl,hw⟩
                                  rw [hlen] at hw
                                  obtain ⟨ys,g1,g2⟩:=rl_ints (ρ:=ρ.upd v) (Det.asc (insK ks (topK ks)) (topK ks))
                                  have hyl:ys.length=(Det.asc (insK ks (topK ks)) (topK ks)).length:=g1.len.symm.trans (List.length_map (fun i:Int=>[V.c (Value.int .i64 i)]))
                                  have hsl:isSl v=true:=by
                                    obtain ⟨_,h7⟩:=hw.at_ (i:=0) rfl
                                    rcases h7 with ⟨rfl,_⟩ | ⟨g,cap,cur,rfl,_⟩ <;> rfl
                                  refine ⟨v,rfl,ρ.upd v,_,Env.upd_le,congrArg (·+1) hdom,.sl (Env.upd_self hdom) hsl,.cons ⟨v,ys,Env.upd_self hdom,g1,rfl⟩ (hH.mono fun _ _ _=>ER.mono Env.upd_le),?_⟩
                                  have:=hst.call hw
                                  have e0:slE ti (Ck.row 1).cd.sz (encW (Ck.row 1).cd.sz) v ys=SL.sl ti 1 v (Det.asc (insK ks (topK ks)) (topK ks)).length (ints (Det.asc (insK ks (topK ks)) (topK ks))):=by
                                    show SL.sl ti 1 v ys.length (encs (encW 1) ys)=_
                                    rw [hyl,g2]
                                  rw [e0]
                                  exact this
          · exact R.Ok.fail
  · exact R.Ok.fail
end Go.RX
