/- Part of a proof: laws. -/
import Derived.Test.YtnabkmkkmkbkfaaGreatDoorRXz
import Derived.Test.YtnabkmkkmkbkfaaGreatDoorWad
import Derived.Test.YtnabkmkkmkbkfaaGreatDoorSL16
import Derived.ProofKit
import Derived.Lib.SmallJoins
import Derived.Deep.Grids
import Derived.Test.YtnabkmkkmkbkfaaGreatDoorRows
import Derived.LaidMore
import Derived.Lay
import Derived.Test.YtnabkmkkmkbkfaaGreatDoorTie
import Derived.Test.YtnabkmkkmkbkfaaGreatDoorCards
import Derived.SevenTiedAt
set_option linter.unusedVariables false
set_option linter.unusedSimpArgs false
namespace Go.Proofs.YtnabkmkkmkbkfaaGreatDoor
open Go Go.SL Go.RX
def g_site_Turned (F:Nat):List Value→Option (List Cp):=fun l=>match l with
  | [v0]=>(asI .i64 v0).bind fun x1=>(zf6 F x1).map fun r=>[.s (Iv r.1),.s (Iv r.2)]
  | _=>none
theorem k_site_Turned (F:Nat):LiftK Tryz.prog 6 (g_site_Turned F):=⟨fun vals r w h=>by
  unfold g_site_Turned at h
  split at h
  · rename_i v0
    rw [Option.bind_eq_some_iff] at h; obtain ⟨x1,hx1,h⟩:=h
    have:=asI_ok hx1; subst this
    rw [Option.map_eq_some_iff] at h; obtain ⟨q,hq,h⟩:=h
    subst h
    exact Calls.mono (zh1 F x1 w q hq) fun e w' ⟨_,he,hS⟩=>⟨he,hS⟩
  · cases h⟩
def g_trig_Sin (F:Nat):List Value→Option (List Cp):=fun l=>match l with
  | [v0]=>(asI .i64 v0).bind fun x1=>(zex F x1).map fun r=>[.a [Iv r.1,Iv r.2]]
  | _=>none
theorem k_trig_Sin (F:Nat):LiftK Tryz.prog 53 (g_trig_Sin F):=⟨fun vals r w h=>by
  unfold g_trig_Sin at h
  split at h
  · rename_i v0
    rw [Option.bind_eq_some_iff] at h; obtain ⟨x1,hx1,h⟩:=h
    have:=asI_ok hx1; subst this
    rw [Option.map_eq_some_iff] at h; obtain ⟨q,hq,h⟩:=h
    subst h
    exact Calls.mono (zeS F x1 w q hq) fun e w' ⟨_,he,hS⟩=>⟨he,hS⟩
  · cases h⟩
def g_span_Scale (F:Nat):List Value→Option (List Cp):=fun l=>match l with
  | [v0,v1,v2]=>(aggs v0).bind fun l0=>(match l0 with
    | [u0,u1]=>(asI .i64 u0).bind fun x1=>(asI .i64 u1).bind fun x2=>(asI .i64 v1).bind fun x3=>(asI .i64 v2).bind fun x4=>(zgz F x1 x2 x3 x4).map fun r=>[.a [Iv r.1,Iv r.2],.s (Iv 0)]
    | _=>none)
  | _=>none
theorem k_span_Scale (F:Nat):LiftK Tryz.prog 50 (g_span_Scale F):=⟨fun vals r w h=>by
  unfold g_span_Scale at h
  split at h
  · rename_i v0 v1 v2
    rw [Option.bind_eq_some_iff] at h; obtain ⟨l0,hl0,h⟩:=h
    have:=aggs_ok hl0; subst this
    split at h
    · rename_i u0 u1
      rw [Option.bind_eq_some_iff] at h; obtain ⟨x1,hx1,h⟩:=h
      have:=asI_ok hx1; subst this
      rw [Option.bind_eq_some_iff] at h; obtain ⟨x2,hx2,h⟩:=h
      have:=asI_ok hx2; subst this
      rw [Option.bind_eq_some_iff] at h; obtain ⟨x3,hx3,h⟩:=h
      have:=asI_ok hx3; subst this
      rw [Option.bind_eq_some_iff] at h; obtain ⟨x4,hx4,h⟩:=h
      have:=asI_ok hx4; subst this
      rw [Option.map_eq_some_iff] at h; obtain ⟨q,hq,h⟩:=h
      subst h
      exact Calls.mono (zic F x1 x2 x3 x4 w q hq) fun e w' ⟨_,he,hS⟩=>⟨he,hS⟩
    · cases h
  · cases h⟩
def g_span_Mul (F:Nat):List Value→Option (List Cp):=fun l=>match l with
  | [v0,v1]=>(aggs v0).bind fun l0=>(match l0 with
    | [u0,u1]=>(aggs v1).bind fun l1=>(match l1 with
    | [u2,u3]=>(asI .i64 u0).bind fun x1=>(asI .i64 u1).bind fun x2=>(asI .i64 u2).bind fun x3=>(asI .i64 u3).bind fun x4=>(zgj F x1 x2 x3 x4).map fun r=>[.a [Iv r.1,Iv r.2],.s (Iv 0)]
    | _=>none)
    | _=>none)
  | _=>none
theorem k_span_Mul (F:Nat):LiftK Tryz.prog 35 (g_span_Mul F):=⟨fun vals r w h=>by
  unfold g_span_Mul at h
  split at h
  · rename_i v0 v1
    rw [Option.bind_eq_some_iff] at h; obtain ⟨l0,hl0,h⟩:=h
    have:=aggs_ok hl0; subst this
    split at h
    · rename_i u0 u1
      rw [Option.bind_eq_some_iff] at h; obtain ⟨l1,hl1,h⟩:=h
      have:=aggs_ok hl1; subst this
      split at h
      · rename_i u2 u3
        rw [Option.bind_eq_some_iff] at h; obtain ⟨x1,hx1,h⟩:=h
        have:=asI_ok hx1; subst this
        rw [Option.bind_eq_some_iff] at h; obtain ⟨x2,hx2,h⟩:=h
        have:=asI_ok hx2; subst this
        rw [Option.bind_eq_some_iff] at h; obtain ⟨x3,hx3,h⟩:=h
        have:=asI_ok hx3; subst this
        rw [Option.bind_eq_some_iff] at h; obtain ⟨x4,hx4,h⟩:=h
        have:=asI_ok hx4; subst this
        rw [Option.map_eq_some_iff] at h; obtain ⟨q,hq,h⟩:=h
        subst h
        exact Calls.mono (zho F x1 x2 x3 x4 w q hq) fun e w' ⟨_,he,hS⟩=>⟨he,hS⟩
      · cases h
    · cases h
  · cases h⟩
def g_span_Div (F:Nat):List Value→Option (List Cp):=fun l=>match l with
  | [v0,v1]=>(aggs v0).bind fun l0=>(match l0 with
    | [u0,u1]=>(aggs v1).bind fun l1=>(match l1 with
    | [u2,u3]=>(asI .i64 u0).bind fun x1=>(asI .i64 u1).bind fun x2=>(asI .i64 u2).bind fun x3=>(asI .i64 u3).bind fun x4=>(zhf F x1 x2 x3 x4).map fun r=>[.a [Iv r.1,Iv r.2],.s (Iv 0)]
    | _=>none)
    | _=>none)
  | _=>none
theorem k_span_Div (F:Nat):LiftK Tryz.prog 31 (g_span_Div F):=⟨fun vals r w h=>by
  unfold g_span_Div at h
  split at h
  · rename_i v0 v1
    rw [Option.bind_eq_some_iff] at h; obtain ⟨l0,hl0,h⟩:=h
    have:=aggs_ok hl0; subst this
    split at h
    · rename_i u0 u1
      rw [Option.bind_eq_some_iff] at h; obtain ⟨l1,hl1,h⟩:=h
      have:=aggs_ok hl1; subst this
      split at h
      · rename_i u2 u3
        rw [Option.bind_eq_some_iff] at h; obtain ⟨x1,hx1,h⟩:=h
        have:=asI_ok hx1; subst this
        rw [Option.bind_eq_some_iff] at h; obtain ⟨x2,hx2,h⟩:=h
        have:=asI_ok hx2; subst this
        rw [Option.bind_eq_some_iff] at h; obtain ⟨x3,hx3,h⟩:=h
        have:=asI_ok hx3; subst this
        rw [Option.bind_eq_some_iff] at h; obtain ⟨x4,hx4,h⟩:=h
        have:=asI_ok hx4; subst this
        rw [Option.map_eq_some_iff] at h; obtain ⟨q,hq,h⟩:=h
        subst h
        exact Calls.mono (ziB F x1 x2 x3 x4 w q hq) fun e w' ⟨_,he,hS⟩=>⟨he,hS⟩
      · cases h
    · cases h
  · cases h⟩
def g_span_Sqrt (F:Nat):List Value→Option (List Cp):=fun l=>match l with
  | [v0]=>(aggs v0).bind fun l0=>(match l0 with
    | [u0,u1]=>(asI .i64 u0).bind fun x1=>(asI .i64 u1).bind fun x2=>(zgQ F x1 x2).map fun r=>[.a [Iv r.1,Iv r.2],.s (Iv 0)]
    | _=>none)
  | _=>none
theorem k_span_Sqrt (F:Nat):LiftK Tryz.prog 34 (g_span_Sqrt F):=⟨fun vals r w h=>by
  unfold g_span_Sqrt at h
  split at h
  · rename_i v0
    rw [Option.bind_eq_some_iff] at h; obtain ⟨l0,hl0,h⟩:=h
    have:=aggs_ok hl0; subst this
    split at h
    · rename_i u0 u1
      rw [Option.bind_eq_some_iff] at h; obtain ⟨x1,hx1,h⟩:=h
      have:=asI_ok hx1; subst this
      rw [Option.bind_eq_some_iff] at h; obtain ⟨x2,hx2,h⟩:=h
      have:=asI_ok hx2; subst this
      rw [Option.map_eq_some_iff] at h; obtain ⟨q,hq,h⟩:=h
      subst h
      exact Calls.mono (zir F x1 x2 w q hq) fun e w' ⟨_,he,hS⟩=>⟨he,hS⟩
    · cases h
  · cases h⟩
def g_sphere_Unit (F:Nat):List Value→Option (List Cp):=fun l=>match l with
  | [v0,v1]=>(asI .i64 v0).bind fun x1=>(asI .i64 v1).bind fun x2=>(zgb F x1 x2).map fun r=>[.a [Iv r.1,Iv r.2.1,Iv r.2.2.1,Iv r.2.2.2.1,Iv r.2.2.2.2.1,Iv r.2.2.2.2.2.1],.s (Iv r.2.2.2.2.2.2)]
  | _=>none
theorem k_sphere_Unit (F:Nat):LiftK Tryz.prog 28 (g_sphere_Unit F):=⟨fun vals r w h=>by
  unfold g_sphere_Unit at h
  split at h
  · rename_i v0 v1
    rw [Option.bind_eq_some_iff] at h; obtain ⟨x1,hx1,h⟩:=h
    have:=asI_ok hx1; subst this
    rw [Option.bind_eq_some_iff] at h; obtain ⟨x2,hx2,h⟩:=h
    have:=asI_ok hx2; subst this
    rw [Option.map_eq_some_iff] at h; obtain ⟨q,hq,h⟩:=h
    subst h
    exact Calls.mono (zh4 F x1 x2 w q hq) fun e w' ⟨_,he,hS⟩=>⟨he,hS⟩
  · cases h⟩
def g_sphere_Norm2 (F:Nat):List Value→Option (List Cp):=fun l=>match l with
  | [v0]=>(aggs v0).bind fun l0=>(match l0 with
    | [u0,u1,u2,u3,u4,u5]=>(asI .i64 u0).bind fun x1=>(asI .i64 u1).bind fun x2=>(asI .i64 u2).bind fun x3=>(asI .i64 u3).bind fun x4=>(asI .i64 u4).bind fun x5=>(asI .i64 u5).bind fun x6=>(zfQ F x1 x2 x3 x4 x5 x6).map fun r=>[.a [Iv r.1,Iv r.2],.s (Iv 0)]
    | _=>none)
  | _=>none
theorem k_sphere_Norm2 (F:Nat):LiftK Tryz.prog 33 (g_sphere_Norm2 F):=⟨fun vals r w h=>by
  unfold g_sphere_Norm2 at h
  split at h
  · rename_i v0
    rw [Option.bind_eq_some_iff] at h; obtain ⟨l0,hl0,h⟩:=h
    have:=aggs_ok hl0; subst this
    split at h
    · rename_i u0 u1 u2 u3 u4 u5
      rw [Option.bind_eq_some_iff] at h; obtain ⟨x1,hx1,h⟩:=h
      have:=asI_ok hx1; subst this
      rw [Option.bind_eq_some_iff] at h; obtain ⟨x2,hx2,h⟩:=h
      have:=asI_ok hx2; subst this
      rw [Option.bind_eq_some_iff] at h; obtain ⟨x3,hx3,h⟩:=h
      have:=asI_ok hx3; subst this
      rw [Option.bind_eq_some_iff] at h; obtain ⟨x4,hx4,h⟩:=h
      have:=asI_ok hx4; subst this
      rw [Option.bind_eq_some_iff] at h; obtain ⟨x5,hx5,h⟩:=h
      have:=asI_ok hx5; subst this
      rw [Option.bind_eq_some_iff] at h; obtain ⟨x6,hx6,h⟩:=h
      have:=asI_ok hx6; subst this
      rw [Option.map_eq_some_iff] at h; obtain ⟨q,hq,h⟩:=h
      subst h
      exact Calls.mono (zhK F x1 x2 x3 x4 x5 x6 w q hq) fun e w' ⟨_,he,hS⟩=>⟨he,hS⟩
    · cases h
  · cases h⟩
def g_sphere_Dot (F:Nat):List Value→Option (List Cp):=fun l=>match l with
  | [v0,v1]=>(aggs v0).bind fun l0=>(match l0 with
    | [u0,u1,u2,u3,u4,u5]=>(aggs v1).bind fun l1=>(match l1 with
    | [u6,u7,u8,u9,u10,u11]=>(asI .i64 u0).bind fun x1=>(asI .i64 u1).bind fun x2=>(asI .i64 u2).bind fun x3=>(asI .i64 u3).bind fun x4=>(asI .i64 u4).bind fun x5=>(asI .i64 u5).bind fun x6=>(asI .i64 u6).bind fun x7=>(asI .i64 u7).bind fun x8=>(asI .i64 u8).bind fun x9=>(asI .i64 u9).bind fun x10=>(asI .i64 u10).bind fun x11=>(asI .i64 u11).bind fun x12=>(zgB F x1 x2 x3 x4 x5 x6 x7 x8 x9 x10 x11 x12).map fun r=>[.a [Iv r.1,Iv r.2],.s (Iv 0)]
    | _=>none)
    | _=>none)
  | _=>none
theorem k_sphere_Dot (F:Nat):LiftK Tryz.prog 30 (g_sphere_Dot F):=⟨fun vals r w h=>by
  unfold g_sphere_Dot at h
  split at h
  · rename_i v0 v1
    rw [Option.bind_eq_some_iff] at h; obtain ⟨l0,hl0,h⟩:=h
    have:=aggs_ok hl0; subst this
    split at h
    · rename_i u0 u1 u2 u3 u4 u5
      rw [Option.bind_eq_some_iff] at h; obtain ⟨l1,hl1,h⟩:=h
      have:=aggs_ok hl1; subst this
      split at h
      · rename_i u6 u7 u8 u9 u10 u11
        rw [Option.bind_eq_some_iff] at h; obtain ⟨x1,hx1,h⟩:=h
        have:=asI_ok hx1; subst this
        rw [Option.bind_eq_some_iff] at h; obtain ⟨x2,hx2,h⟩:=h
        have:=asI_ok hx2; subst this
        rw [Option.bind_eq_some_iff] at h; obtain ⟨x3,hx3,h⟩:=h
        have:=asI_ok hx3; subst this
        rw [Option.bind_eq_some_iff] at h; obtain ⟨x4,hx4,h⟩:=h
        have:=asI_ok hx4; subst this
        rw [Option.bind_eq_some_iff] at h; obtain ⟨x5,hx5,h⟩:=h
        have:=asI_ok hx5; subst this
        rw [Option.bind_eq_some_iff] at h; obtain ⟨x6,hx6,h⟩:=h
        have:=asI_ok hx6; subst this
        rw [Option.bind_eq_some_iff] at h; obtain ⟨x7,hx7,h⟩:=h
        have:=asI_ok hx7; subst this
        rw [Option.bind_eq_some_iff] at h; obtain ⟨x8,hx8,h⟩:=h
        have:=asI_ok hx8; subst this
        rw [Option.bind_eq_some_iff] at h; obtain ⟨x9,hx9,h⟩:=h
        have:=asI_ok hx9; subst this
        rw [Option.bind_eq_some_iff] at h; obtain ⟨x10,hx10,h⟩:=h
        have:=asI_ok hx10; subst this
        rw [Option.bind_eq_some_iff] at h; obtain ⟨x11,hx11,h⟩:=h
        have:=asI_ok hx11; subst this
        rw [Option.bind_eq_some_iff] at h; obtain ⟨x12,hx12,h⟩:=h
        have:=asI_ok hx12; subst this
        rw [Option.map_eq_some_iff] at h; obtain ⟨q,hq,h⟩:=h
        subst h
        exact Calls.mono (zid F x1 x2 x3 x4 x5 x6 x7 x8 x9 x10 x11 x12 w q hq) fun e w' ⟨_,he,hS⟩=>⟨he,hS⟩
      · cases h
    · cases h
  · cases h⟩
def g_sphere_Add (F:Nat):List Value→Option (List Cp):=fun l=>match l with
  | [v0,v1]=>(aggs v0).bind fun l0=>(match l0 with
    | [u0,u1,u2,u3,u4,u5]=>(aggs v1).bind fun l1=>(match l1 with
    | [u6,u7,u8,u9,u10,u11]=>(asI .i64 u0).bind fun x1=>(asI .i64 u1).bind fun x2=>(asI .i64 u2).bind fun x3=>(asI .i64 u3).bind fun x4=>(asI .i64 u4).bind fun x5=>(asI .i64 u5).bind fun x6=>(asI .i64 u6).bind fun x7=>(asI .i64 u7).bind fun x8=>(asI .i64 u8).bind fun x9=>(asI .i64 u9).bind fun x10=>(asI .i64 u10).bind fun x11=>(asI .i64 u11).bind fun x12=>(zgC F x1 x2 x3 x4 x5 x6 x7 x8 x9 x10 x11 x12).map fun r=>[.a [Iv r.1,Iv r.2.1,Iv r.2.2.1,Iv r.2.2.2.1,Iv r.2.2.2.2.1,Iv r.2.2.2.2.2],.s (Iv 0)]
    | _=>none)
    | _=>none)
  | _=>none
theorem k_sphere_Add (F:Nat):LiftK Tryz.prog 27 (g_sphere_Add F):=⟨fun vals r w h=>by
  unfold g_sphere_Add at h
  split at h
  · rename_i v0 v1
    rw [Option.bind_eq_some_iff] at h; obtain ⟨l0,hl0,h⟩:=h
    have:=aggs_ok hl0; subst this
    split at h
    · rename_i u0 u1 u2 u3 u4 u5
      rw [Option.bind_eq_some_iff] at h; obtain ⟨l1,hl1,h⟩:=h
      have:=aggs_ok hl1; subst this
      split at h
      · rename_i u6 u7 u8 u9 u10 u11
        rw [Option.bind_eq_some_iff] at h; obtain ⟨x1,hx1,h⟩:=h
        have:=asI_ok hx1; subst this
        rw [Option.bind_eq_some_iff] at h; obtain ⟨x2,hx2,h⟩:=h
        have:=asI_ok hx2; subst this
        rw [Option.bind_eq_some_iff] at h; obtain ⟨x3,hx3,h⟩:=h
        have:=asI_ok hx3; subst this
        rw [Option.bind_eq_some_iff] at h; obtain ⟨x4,hx4,h⟩:=h
        have:=asI_ok hx4; subst this
        rw [Option.bind_eq_some_iff] at h; obtain ⟨x5,hx5,h⟩:=h
        have:=asI_ok hx5; subst this
        rw [Option.bind_eq_some_iff] at h; obtain ⟨x6,hx6,h⟩:=h
        have:=asI_ok hx6; subst this
        rw [Option.bind_eq_some_iff] at h; obtain ⟨x7,hx7,h⟩:=h
        have:=asI_ok hx7; subst this
        rw [Option.bind_eq_some_iff] at h; obtain ⟨x8,hx8,h⟩:=h
        have:=asI_ok hx8; subst this
        rw [Option.bind_eq_some_iff] at h; obtain ⟨x9,hx9,h⟩:=h
        have:=asI_ok hx9; subst this
        rw [Option.bind_eq_some_iff] at h; obtain ⟨x10,hx10,h⟩:=h
        have:=asI_ok hx10; subst this
        rw [Option.bind_eq_some_iff] at h; obtain ⟨x11,hx11,h⟩:=h
        have:=asI_ok hx11; subst this
        rw [Option.bind_eq_some_iff] at h; obtain ⟨x12,hx12,h⟩:=h
        have:=asI_ok hx12; subst this
        rw [Option.map_eq_some_iff] at h; obtain ⟨q,hq,h⟩:=h
        subst h
        exact Calls.mono (zie F x1 x2 x3 x4 x5 x6 x7 x8 x9 x10 x11 x12 w q hq) fun e w' ⟨_,he,hS⟩=>⟨he,hS⟩
      · cases h
    · cases h
  · cases h⟩
def g_ephem_name (F:Nat):List Value→Option (List Cp):=fun l=>match l with
  | [v0]=>(asT v0).bind fun x1=>(zgD F x1).map fun r=>[.s (Bv r)]
  | _=>none
theorem k_ephem_name (F:Nat):LiftK Tryz.prog 54 (g_ephem_name F):=⟨fun vals r w h=>by
  unfold g_ephem_name at h
  split at h
  · rename_i v0
    rw [Option.bind_eq_some_iff] at h; obtain ⟨x1,hx1,h⟩:=h
    have:=asT_ok hx1; subst this
    rw [Option.map_eq_some_iff] at h; obtain ⟨q,hq,h⟩:=h
    subst h
    exact Calls.mono (zif F x1 w q hq) fun e w' ⟨_,he,hS⟩=>⟨he,hS⟩
  · cases h⟩
def dec2 (r:List Value):Option (Int):=match r with
  | [c0]=>(asI .i64 c0).bind fun y0=>some y0
  | _=>none
theorem dec2_ok (r:List Value) (x:Int) (h:dec2 r=some x):r=E2 x:=by
 unfold dec2 at h
 split at h
 · rename_i c0
   rw [Option.bind_eq_some_iff] at h; obtain ⟨y0,h0,h⟩:=h; have:=asI_ok h0; subst this
   rw [← Option.some.inj h]; rfl
 · cases h
def g_ephem_place (F:Nat):List Ar→Option (List Cp):=fun l=>match l with
  | [a0,a1]=>(arG a0).bind fun l0=>(match l0 with | [a0_0,a0_1,a0_2,a0_3,a0_4]=>(arV a0_0).bind fun v_a0_0=>(asI .i64 v_a0_0).bind fun x1=>(arV a0_1).bind fun v_a0_1=>(asI .i64 v_a0_1).bind fun x2=>(arL dec2 a0_2).bind fun x4=>(arL dec2 a0_3).bind fun x6=>(arL dec2 a0_4).bind fun x8=>(arV a1).bind fun v_a1=>(asI .i64 v_a1).bind fun x9=>(zgh F x1 x2 x4 x6 x8 x9).map fun r=>[.a [Iv r.1,Iv r.2.1,Iv r.2.2.1,Iv r.2.2.2.1,Iv r.2.2.2.2.1,Iv r.2.2.2.2.2]] | _=>none)
  | _=>none
theorem k_ephem_place (F:Nat):LiftA Tryz.prog 57 (g_ephem_place F):=⟨fun args vals r w h hg=>by
  unfold g_ephem_place at hg
  split at hg
  · rename_i a0 a1
    obtain _ | ⟨k0,h⟩:=h; obtain _ | ⟨k1,h⟩:=h; cases h
    rw [Option.bind_eq_some_iff] at hg; obtain ⟨l0,hl0,hg⟩:=hg; obtain ⟨us0,hu0,ks0⟩:=arG_ok hl0 k0; subst hu0
    split at hg
    · rename_i a0_0 a0_1 a0_2 a0_3 a0_4
      obtain _ | ⟨k0_0,ks0⟩:=ks0; obtain _ | ⟨k0_1,ks0⟩:=ks0; obtain _ | ⟨k0_2,ks0⟩:=ks0; obtain _ | ⟨k0_3,ks0⟩:=ks0; obtain _ | ⟨k0_4,ks0⟩:=ks0; cases ks0
      rw [Option.bind_eq_some_iff] at hg; obtain ⟨v_a0_0,j_a0_0,hg⟩:=hg; rw [Option.bind_eq_some_iff] at hg; obtain ⟨x1,i_a0_0,hg⟩:=hg
      have:=arV_ok j_a0_0 k0_0.ar; subst this; have:=asI_ok i_a0_0; subst this
      rw [Option.bind_eq_some_iff] at hg; obtain ⟨v_a0_1,j_a0_1,hg⟩:=hg; rw [Option.bind_eq_some_iff] at hg; obtain ⟨x2,i_a0_1,hg⟩:=hg
      have:=arV_ok j_a0_1 k0_1.ar; subst this; have:=asI_ok i_a0_1; subst this
      rw [Option.bind_eq_some_iff] at hg; obtain ⟨x4,j_a0_2,hg⟩:=hg
      have s_a0_2:=arL_ok (E:=E2) dec2_ok E2_len j_a0_2 k0_2.ar
      rw [Option.bind_eq_some_iff] at hg; obtain ⟨x6,j_a0_3,hg⟩:=hg
      have s_a0_3:=arL_ok (E:=E2) dec2_ok E2_len j_a0_3 k0_3.ar
      rw [Option.bind_eq_some_iff] at hg; obtain ⟨x8,j_a0_4,hg⟩:=hg
      have s_a0_4:=arL_ok (E:=E2) dec2_ok E2_len j_a0_4 k0_4.ar
      rw [Option.bind_eq_some_iff] at hg; obtain ⟨v_a1,j_a1,hg⟩:=hg; rw [Option.bind_eq_some_iff] at hg; obtain ⟨x9,i_a1,hg⟩:=hg
      have:=arV_ok j_a1 k1; subst this; have:=asI_ok i_a1; subst this
      rw [Option.map_eq_some_iff] at hg; obtain ⟨q,hq,hr⟩:=hg
      subst hr
      exact Calls.mono (zh5 F x1 x2 _ x4 _ x6 _ x8 x9 w s_a0_2 s_a0_3 s_a0_4 q hq) fun e w' ⟨_,he,hS⟩=>⟨he,hS⟩
    · cases hg
  · cases hg⟩
def smL:SmT:=fun f=>match f with
  | 6=>some (gLift (g_site_Turned 10000))
  | 53=>some (gLift (g_trig_Sin 10000))
  | 50=>some (gLift (g_span_Scale 10000))
  | 35=>some (gLift (g_span_Mul 10000))
  | 31=>some (gLift (g_span_Div 10000))
  | 34=>some (gLift (g_span_Sqrt 10000))
  | 28=>some (gLift (g_sphere_Unit 10000))
  | 33=>some (gLift (g_sphere_Norm2 10000))
  | 30=>some (gLift (g_sphere_Dot 10000))
  | 27=>some (gLift (g_sphere_Add 10000))
  | 54=>some (gLift (g_ephem_name 10000))
  | 57=>some (gLiftA (g_ephem_place 10000))
  | _=>none
theorem smL_ok:∀ f g,smL f=some g→∀ w0 X B vs H nx,(g B vs H nx).Ok (FunOK Tryz.prog w0 X B f vs H nx):=by
  intro f g h
  unfold smL at h
  split at h
  · simp only [Option.some.injEq] at h; subst h; exact gLift_ok (k_site_Turned 10000)
  · simp only [Option.some.injEq] at h; subst h; exact gLift_ok (k_trig_Sin 10000)
  · simp only [Option.some.injEq] at h; subst h; exact gLift_ok (k_span_Scale 10000)
  · simp only [Option.some.injEq] at h; subst h; exact gLift_ok (k_span_Mul 10000)
  · simp only [Option.some.injEq] at h; subst h; exact gLift_ok (k_span_Div 10000)
  · simp only [Option.some.injEq] at h; subst h; exact gLift_ok (k_span_Sqrt 10000)
  · simp only [Option.some.injEq] at h; subst h; exact gLift_ok (k_sphere_Unit 10000)
  · simp only [Option.some.injEq] at h; subst h; exact gLift_ok (k_sphere_Norm2 10000)
  · simp only [Option.some.injEq] at h; subst h; exact gLift_ok (k_sphere_Dot 10000)
  · simp only [Option.some.injEq] at h; subst h; exact gLift_ok (k_sphere_Add 10000)
  · simp only [Option.some.injEq] at h; subst h; exact gLift_ok (k_ephem_name 10000)
  · simp only [Option.some.injEq] at h; subst h; exact gLiftA_ok (k_ephem_place 10000)
  · cases h
end Go.Proofs.YtnabkmkkmkbkfaaGreatDoor

namespace Go.Proofs.YtnabkmkkmkbkfaaGreatDoor
open Go Go.SL Go.RX
def nW:FuncId→Bool:=fun _=>false
theorem sn_pure:Pure0 Tryz.prog 3 (.bool true):=pure0_of (kp:=nW) (Sm:=smL) (wrF:=nW) (F:=1000) (m:=50) smL_ok (isTrueA_ans (by kernel_rfl))
end Go.Proofs.YtnabkmkkmkbkfaaGreatDoor

namespace Go.SL
open Go Go.ChangeShapes Go.WideShapes Go.ChangeAt Go.RowKit
inductive LK where
  | int (k:IntKind)
  | bool
  | str
def LK.ok:LK→Value→Prop
  | .int k,v=>∃ n,v=.int k n∧(Lit.int k n).wf=true
  | .bool,v=>∃ b,v=.bool b
  | .str,v=>∃ s:ByteArray,v=.string s∧s.size≤maxLen
def AllK:List LK→List Value→Prop
  | [],cs=>cs=[]
  | k::ks,cs=>∃ v t,cs=v::t∧k.ok v∧AllK ks t
theorem AllK.app:∀ {ks ks':List LK} {a b:List Value},AllK ks a→AllK ks' b→AllK (ks++ks') (a++b)
  | [],_,a,b,h1,h2=>by
    have h1:a=[]:=h1
    subst h1; exact h2
  | k::ks,_,a,b,⟨v,t,h1,h2,h3⟩,h4=>by
    subst h1
    exact ⟨v,t++b,rfl,h2,AllK.app h3 h4⟩
def leafFs (P:Program) (f:TypeId→Option (List LK)):List Field→Nat→Option (List LK × Nat)
  | [],o=>some ([],o)
  | g::t,o=>if Nat.beq g.offset o=true then
      match f g.type with
      | some ks=>if Nat.beq ks.length (P.cellsOf g.type)=true then
          match leafFs P f t (o+ks.length) with
          | some (r,o')=>some (ks++r,o')
          | none=>none
        else none
      | none=>none
    else none
def leafK (P:Program):Nat→TypeId→Option (List LK)
  | 0,_=>none
  | d+1,t=>match P.underlying t with
    | some (.int k)=>some [.int k]
    | some .bool=>some [.bool]
    | some .string=>some [.str]
    | some (.struct fs)=>match leafFs P (leafK P d) fs.toList 0 with
      | some (ks,o)=>if Nat.beq o (P.cellsOf t)=true then some ks else none
      | none=>none
    | some (.array n e)=>match leafK P d e with
      | some ks=>if (Nat.beq ks.length (P.cellsOf e)&&Nat.beq (n*ks.length) (P.cellsOf t))=true then some (List.replicate n ks).flatten else none
      | none=>none
    | _=>none
section
variable {H:Type} {enc:TypeId × Value→H} {P:Program} {w:World} {base:Nat} {spare:Nat→Bool} {held:Bool}
end
theorem Below.trodAll {H:Type} {enc:TypeId × Value→H} {P:Program} (hl:laidOutB P=true) {W W':World} (hb:RowKit.Below W.heap.size W W'):∀ (ts:List TypeId) (vs:List Value) (ds:List (DataW H)) (p:List MemPlace),
    (ts.all fun t=>P.readableRec t&&Nat.blt t P.types.size)=true→DataW.TrodAll enc P W 0 (fun _=>true) true ts vs ds p→(∀ x ∈ p,x.block<W.heap.size)→DataW.TrodAll enc P W' 0 (fun b=>decide (b<W.heap.size)) true ts vs ds p
  | [],[],[],p,_,h,_=>h
  | [],[],_::_,p,_,h,_=>by simp [DataW.TrodAll] at h
  | [],_::_,_,p,_,h,_=>by simp [DataW.TrodAll] at h
  | _::_,[],_,p,_,h,_=>by simp [DataW.TrodAll] at h
  | _::_,_::_,[],p,_,h,_=>by simp [DataW.TrodAll] at h
  | t::ts,v::vs,d::ds,p,ha,h,hlt=>by
    simp only [List.all_cons,Bool.and_eq_true] at ha
    obtain ⟨p1,p2,h1,h2,rfl⟩:=h
    exact ⟨p1,p2,RowKit.Below.trod hl ha.1.1 (by simpa using ha.1.2) h1 hb (fun x hx=>hlt x (List.mem_append_left _ hx)),Below.trodAll hl hb ts vs ds p2 ha.2 h2 (fun x hx=>hlt x (List.mem_append_right _ hx)),rfl⟩
theorem trodAll_unnil {H:Type} {enc:TypeId × Value→H} {P:Program} {w:World} {base:Nat} {spare:Nat→Bool} {held:Bool} {args:List Value} {ds:List (DataW H)} {p:List MemPlace}
    (h:DataW.TrodAll enc P w base spare held [] args ds p):args=[]∧ds=[]:=by
  cases args with
  | nil =>
    cases ds with
    | nil=>exact ⟨rfl,rfl⟩
    | cons=>simp [DataW.TrodAll] at h
  | cons=>simp [DataW.TrodAll] at h
end Go.SL

namespace Go.Proofs.YtnabkmkkmkbkfaaGreatDoor
open Go Go.SL Go.RX Go.ChangeShapes Go.WideShapes Go.ChangeAt Go.RowKit
theorem Tryz.own:ownKnob Tryz.prog.godebug=none:=by kernel_rfl
theorem Tryz.laidOut:laidOutB Tryz.prog=true:=by kernel_rfl
theorem door_met (os:Os) (args:Array Value):laidMetH Tryz.prog Rows.siteNamesRow.laid ((World.laidAll Tryz.prog os Rows.siteNamesRow.laid).forCall (fun _ _=>0) ⟨#[],args,[]⟩).memory:=by
  rw [MakeChecks.laidMetH_plain _ _ _ (by kernel_rfl)]
  exact laidMet_laidAll _ (by kernel_rfl) (by kernel_rfl)
set_option maxRecDepth 100000 in
theorem siteNames_lifted (os:Os) (started:os.Started) (H:Type) (enc:TypeId × Value→H) :
    ReturnsInHanded {} Tryz.checked os 3 .any (fun w args=>(Rows.siteNamesSpec.pre enc Tryz.prog Tryz.f3 [] false w args∧laidMetH Tryz.prog Rows.siteNamesRow.laid w)∧sizedMet enc Tryz.prog Tryz.f3 (OpenSpec.ofChange Rows.siteNamesSpec) false w args) (Rows.siteNamesSpec.post enc Tryz.prog Tryz.f3 false true false false):=by
  refine returnsInHanded_of_change_and (C:=Tryz.checked) (X:=fun w _=>laidMetH Tryz.prog Rows.siteNamesRow.laid w) (fun _ _ _ hh h=>h.of_heap hh) Tryz.own started (by kernel_rfl) Tryz.func3
    (ChangeSpec.witness_shaped (enc:=enc) (C:=Tryz.checked) (os:=os) (X:=fun w _=>laidMetH Tryz.prog Rows.siteNamesRow.laid w) false (World.laidAll Tryz.prog os Rows.siteNamesRow.laid) #[] 8 rfl (World.shaped_of_ZipB (by kernel_rfl) (by kernel_rfl)) (by kernel_rfl) (by kernel_rfl) (by kernel_rfl) (door_met os _)) ?_
  intro W base args ds gs before hval0 hW _ _ hL _
  have hW':=hW
  obtain ⟨p,q,hA0,hV,rfl,hfz,hnd⟩:=hW
  have hA:DataW.TrodAll enc Tryz.prog W 0 (fun _=>true) true [] args.toList ds p:=hA0
  obtain ⟨rfl,rfl⟩:=trodVars_none hV
  have hA':=hA
  obtain ⟨e1,rfl⟩:=trodAll_unnil hA
  obtain rfl:args=#[]:=by
    apply Array.ext'
    simpa using e1
  refine Calls.mono (sn_pure W) fun e W' ⟨he,hS⟩=>?_
  subst he
  have hb:RowKit.Below W.heap.size W W':=⟨hS.os,hS.tape,hS.output,hS.size,fun k hk=>hS.old k hk (fun h=>h)⟩
  refine ⟨_,rfl,_,_,_,[],p,[],hW',trodAll_mk1 (shut_bool Tryz.underlying4 true),?_,?_,hb.frame _,fun h=>by cases h⟩
  · have hl:=hW'.lt
    simp only [List.append_nil] at hl
    exact Below.trodAll Tryz.laidOut hb _ _ _ _ (by kernel_rfl) hA' (fun x hx=>hl x (by simpa using hx))
  · rfl
theorem siteNames_holds:Rows.SiteNamesSaid :=
  OpenClaim.holds_of_wide 3 Tryz.f3 rfl rfl rfl rfl rfl rfl rfl ⟨rfl,rfl,rfl,rfl,rfl⟩ rfl rfl rfl rfl rfl (by kernel_rfl) Tryz.func3 (by kernel_rfl)
    (of_decide_eq_true (by kernel_rfl)) (by unfold Func.isWrapper; first | (rw [if_pos (by decide +kernel)]; kernel_rfl) | (rw [if_neg (by decide +kernel)]; exact ⟨rfl,rfl⟩))
    (fun os started H enc _=>siteNames_lifted os started H enc)
end Go.Proofs.YtnabkmkkmkbkfaaGreatDoor

namespace Go.Proofs.YtnabkmkkmkbkfaaGreatDoor
open Go
theorem siteNamesCard_holds:Rows.SiteNamesCardSaid :=
  Claim7.holds_tied_plain_at .later [] [.data,.pinned] true (true,"d2978409887439d2407963003fbdab781707e60b282c74349711f0e48f6ecf9f") true
    siteNames_holds (fun _ h=>by cases h) (by kernel_rfl) (fun _ h=>by cases h) siteNames_row_tie rfl ⟨rfl,rfl⟩ (by kernel_rfl) rfl
    (fun f fn hf hfn=>by
      obtain rfl:f=3:=Option.some.inj ((show Tryz.prog.funcNamed "planisphere/planispherelaw24.SiteNames"=some 3 by kernel_rfl).symm.trans hf) |>.symm
      obtain rfl:fn=Tryz.f3:=(Option.some.inj (Tryz.func3.symm.trans hfn)).symm
      exact ⟨by kernel_rfl,fun j t ht=>by
        rw [show Tryz.f3.params=#[] by kernel_rfl] at ht
        simp at ht⟩)
    (by kernel_rfl)
end Go.Proofs.YtnabkmkkmkbkfaaGreatDoor
