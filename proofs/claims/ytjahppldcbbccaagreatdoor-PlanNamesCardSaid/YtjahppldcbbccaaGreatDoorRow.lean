/- Part of a proof: laws. -/
import Derived.Test.YtjahppldcbbccaaGreatDoorRXz
import Derived.Test.YtjahppldcbbccaaGreatDoorWad
import Derived.Test.YtjahppldcbbccaaGreatDoorSL16
import Derived.ProofKit
import Derived.Lib.SmallJoins
import Derived.Deep.Grids
import Derived.Test.YtjahppldcbbccaaGreatDoorRows
import Derived.LaidMore
import Derived.Lay
import Derived.Test.YtjahppldcbbccaaGreatDoorTie
import Derived.Test.YtjahppldcbbccaaGreatDoorCards
import Derived.SevenTiedAt
set_option linter.unusedVariables false
set_option linter.unusedSimpArgs false
namespace Go.Proofs.YtjahppldcbbccaaGreatDoor
open Go Go.SL Go.RX
def g_plan_Spread (F:Nat):List Value→Option (List Cp):=fun l=>match l with
  | [v0,v1,v2]=>(asI .i64 v0).bind fun x1=>(asI .i64 v1).bind fun x2=>(asI .i64 v2).bind fun x3=>(zgV F x1 x2 x3).map fun r=>[.s (Iv r.1),.s (Iv r.2)]
  | _=>none
theorem k_plan_Spread (F:Nat):LiftK Tryz.prog 7 (g_plan_Spread F):=⟨fun vals r w h=>by
  unfold g_plan_Spread at h
  split at h
  · rename_i v0 v1 v2
    rw [Option.bind_eq_some_iff] at h; obtain ⟨x1,hx1,h⟩:=h
    have:=asI_ok hx1; subst this
    rw [Option.bind_eq_some_iff] at h; obtain ⟨x2,hx2,h⟩:=h
    have:=asI_ok hx2; subst this
    rw [Option.bind_eq_some_iff] at h; obtain ⟨x3,hx3,h⟩:=h
    have:=asI_ok hx3; subst this
    rw [Option.map_eq_some_iff] at h; obtain ⟨q,hq,h⟩:=h
    subst h
    exact Calls.mono (ziN F x1 x2 x3 w q hq) fun e w' ⟨_,he,hS⟩=>⟨he,hS⟩
  · cases h⟩
def g_tracklet_Along (F:Nat):List Value→Option (List Cp):=fun l=>match l with
  | [v0,v1]=>(aggs v0).bind fun l0=>(match l0 with
    | [u0,u1,u2,u3,u4,u5]=>(asT u0).bind fun x1=>(asI .i64 u1).bind fun x2=>(asI .i64 u2).bind fun x3=>(asI .i64 u3).bind fun x4=>(asI .i64 u4).bind fun x5=>(asI .i64 u5).bind fun x6=>(asI .i64 v1).bind fun x7=>(zfA F x1 x2 x3 x4 x5 x6 x7).map fun r=>[.s (Iv r.1),.s (Iv r.2.1),.s (Iv r.2.2)]
    | _=>none)
  | _=>none
theorem k_tracklet_Along (F:Nat):LiftK Tryz.prog 51 (g_tracklet_Along F):=⟨fun vals r w h=>by
  unfold g_tracklet_Along at h
  split at h
  · rename_i v0 v1
    rw [Option.bind_eq_some_iff] at h; obtain ⟨l0,hl0,h⟩:=h
    have:=aggs_ok hl0; subst this
    split at h
    · rename_i u0 u1 u2 u3 u4 u5
      rw [Option.bind_eq_some_iff] at h; obtain ⟨x1,hx1,h⟩:=h
      have:=asT_ok hx1; subst this
      rw [Option.bind_eq_some_iff] at h; obtain ⟨x2,hx2,h⟩:=h
      have:=asI_ok hx2; subst this
      rw [Option.bind_eq_some_iff] at h; obtain ⟨x3,hx3,h⟩:=h
      have:=asI_ok hx3; subst this
      rw [Option.bind_eq_some_iff] at h; obtain ⟨x4,hx4,h⟩:=h
      have:=asI_ok hx4; subst this
      rw [Option.bind_eq_some_iff] at h; obtain ⟨x5,hx5,h⟩:=h
      have:=asI_ok hx5; subst this
      rw [Option.bind_eq_some_iff] at h; obtain ⟨x6,hx6,h⟩:=h
      have:=asI_ok hx6; subst this
      rw [Option.bind_eq_some_iff] at h; obtain ⟨x7,hx7,h⟩:=h
      have:=asI_ok hx7; subst this
      rw [Option.map_eq_some_iff] at h; obtain ⟨q,hq,h⟩:=h
      subst h
      exact Calls.mono (zih F x1 x2 x3 x4 x5 x6 x7 w q hq) fun e w' ⟨_,he,hS⟩=>⟨he,hS⟩
    · cases h
  · cases h⟩
def g_site_Turned (F:Nat):List Value→Option (List Cp):=fun l=>match l with
  | [v0]=>(asI .i64 v0).bind fun x1=>(zgY F x1).map fun r=>[.s (Iv r),.s (Iv 0)]
  | _=>none
theorem k_site_Turned (F:Nat):LiftK Tryz.prog 127 (g_site_Turned F):=⟨fun vals r w h=>by
  unfold g_site_Turned at h
  split at h
  · rename_i v0
    rw [Option.bind_eq_some_iff] at h; obtain ⟨x1,hx1,h⟩:=h
    have:=asI_ok hx1; subst this
    rw [Option.map_eq_some_iff] at h; obtain ⟨q,hq,h⟩:=h
    subst h
    exact Calls.mono (ziO F x1 w q hq) fun e w' ⟨_,he,hS⟩=>⟨he,hS⟩
  · cases h⟩
def g_trig_Sin (F:Nat):List Value→Option (List Cp):=fun l=>match l with
  | [v0]=>(asI .i64 v0).bind fun x1=>(ze2 F x1).map fun r=>[.a [Iv r.1,Iv r.2]]
  | _=>none
theorem k_trig_Sin (F:Nat):LiftK Tryz.prog 126 (g_trig_Sin F):=⟨fun vals r w h=>by
  unfold g_trig_Sin at h
  split at h
  · rename_i v0
    rw [Option.bind_eq_some_iff] at h; obtain ⟨x1,hx1,h⟩:=h
    have:=asI_ok hx1; subst this
    rw [Option.map_eq_some_iff] at h; obtain ⟨q,hq,h⟩:=h
    subst h
    exact Calls.mono (zfq F x1 w q hq) fun e w' ⟨_,he,hS⟩=>⟨he,hS⟩
  · cases h⟩
def g_span_Mul (F:Nat):List Value→Option (List Cp):=fun l=>match l with
  | [v0,v1]=>(aggs v0).bind fun l0=>(match l0 with
    | [u0,u1]=>(aggs v1).bind fun l1=>(match l1 with
    | [u2,u3]=>(asI .i64 u0).bind fun x1=>(asI .i64 u1).bind fun x2=>(asI .i64 u2).bind fun x3=>(asI .i64 u3).bind fun x4=>(zg8 F x1 x2 x3 x4).map fun r=>[.a [Iv r.1,Iv r.2],.s (Iv 0)]
    | _=>none)
    | _=>none)
  | _=>none
theorem k_span_Mul (F:Nat):LiftK Tryz.prog 128 (g_span_Mul F):=⟨fun vals r w h=>by
  unfold g_span_Mul at h
  split at h
  · rename_i v0 v1
    rw [Option.bind_eq_some_iff] at h; obtain ⟨l0,hl0,h⟩:=h
    have:=aggs_ok hl0; subst this
    split at h
    · rename_i u0 u1
      rw [Option.bind_eq_some_iff] at h; obtain ⟨l1,hl1,h⟩:=h
      have:=aggs_ok hl1; subst this
      split at h
      · rename_i u2 u3
        rw [Option.bind_eq_some_iff] at h; obtain ⟨x1,hx1,h⟩:=h
        have:=asI_ok hx1; subst this
        rw [Option.bind_eq_some_iff] at h; obtain ⟨x2,hx2,h⟩:=h
        have:=asI_ok hx2; subst this
        rw [Option.bind_eq_some_iff] at h; obtain ⟨x3,hx3,h⟩:=h
        have:=asI_ok hx3; subst this
        rw [Option.bind_eq_some_iff] at h; obtain ⟨x4,hx4,h⟩:=h
        have:=asI_ok hx4; subst this
        rw [Option.map_eq_some_iff] at h; obtain ⟨q,hq,h⟩:=h
        subst h
        exact Calls.mono (zie F x1 x2 x3 x4 w q hq) fun e w' ⟨_,he,hS⟩=>⟨he,hS⟩
      · cases h
    · cases h
  · cases h⟩
def g_span_Div (F:Nat):List Value→Option (List Cp):=fun l=>match l with
  | [v0,v1]=>(aggs v0).bind fun l0=>(match l0 with
    | [u0,u1]=>(aggs v1).bind fun l1=>(match l1 with
    | [u2,u3]=>(asI .i64 u0).bind fun x1=>(asI .i64 u1).bind fun x2=>(asI .i64 u2).bind fun x3=>(asI .i64 u3).bind fun x4=>(zh7 F x1 x2 x3 x4).map fun r=>[.a [Iv r.1,Iv r.2],.s (Iv 0)]
    | _=>none)
    | _=>none)
  | _=>none
theorem k_span_Div (F:Nat):LiftK Tryz.prog 73 (g_span_Div F):=⟨fun vals r w h=>by
  unfold g_span_Div at h
  split at h
  · rename_i v0 v1
    rw [Option.bind_eq_some_iff] at h; obtain ⟨l0,hl0,h⟩:=h
    have:=aggs_ok hl0; subst this
    split at h
    · rename_i u0 u1
      rw [Option.bind_eq_some_iff] at h; obtain ⟨l1,hl1,h⟩:=h
      have:=aggs_ok hl1; subst this
      split at h
      · rename_i u2 u3
        rw [Option.bind_eq_some_iff] at h; obtain ⟨x1,hx1,h⟩:=h
        have:=asI_ok hx1; subst this
        rw [Option.bind_eq_some_iff] at h; obtain ⟨x2,hx2,h⟩:=h
        have:=asI_ok hx2; subst this
        rw [Option.bind_eq_some_iff] at h; obtain ⟨x3,hx3,h⟩:=h
        have:=asI_ok hx3; subst this
        rw [Option.bind_eq_some_iff] at h; obtain ⟨x4,hx4,h⟩:=h
        have:=asI_ok hx4; subst this
        rw [Option.map_eq_some_iff] at h; obtain ⟨q,hq,h⟩:=h
        subst h
        exact Calls.mono (zjw F x1 x2 x3 x4 w q hq) fun e w' ⟨_,he,hS⟩=>⟨he,hS⟩
      · cases h
    · cases h
  · cases h⟩
def g_sphere_Unit (F:Nat):List Value→Option (List Cp):=fun l=>match l with
  | [v0,v1]=>(asI .i64 v0).bind fun x1=>(asI .i64 v1).bind fun x2=>(zg2 F x1 x2).map fun r=>[.a [Iv r.1,Iv r.2.1,Iv r.2.2.1,Iv r.2.2.2.1,Iv r.2.2.2.2.1,Iv r.2.2.2.2.2],.s (Iv 0)]
  | _=>none
theorem k_sphere_Unit (F:Nat):LiftK Tryz.prog 70 (g_sphere_Unit F):=⟨fun vals r w h=>by
  unfold g_sphere_Unit at h
  split at h
  · rename_i v0 v1
    rw [Option.bind_eq_some_iff] at h; obtain ⟨x1,hx1,h⟩:=h
    have:=asI_ok hx1; subst this
    rw [Option.bind_eq_some_iff] at h; obtain ⟨x2,hx2,h⟩:=h
    have:=asI_ok hx2; subst this
    rw [Option.map_eq_some_iff] at h; obtain ⟨q,hq,h⟩:=h
    subst h
    exact Calls.mono (ziR F x1 x2 w q hq) fun e w' ⟨_,he,hS⟩=>⟨he,hS⟩
  · cases h⟩
def g_sphere_Dot (F:Nat):List Value→Option (List Cp):=fun l=>match l with
  | [v0,v1]=>(aggs v0).bind fun l0=>(match l0 with
    | [u0,u1,u2,u3,u4,u5]=>(aggs v1).bind fun l1=>(match l1 with
    | [u6,u7,u8,u9,u10,u11]=>(asI .i64 u0).bind fun x1=>(asI .i64 u1).bind fun x2=>(asI .i64 u2).bind fun x3=>(asI .i64 u3).bind fun x4=>(asI .i64 u4).bind fun x5=>(asI .i64 u5).bind fun x6=>(asI .i64 u6).bind fun x7=>(asI .i64 u7).bind fun x8=>(asI .i64 u8).bind fun x9=>(asI .i64 u9).bind fun x10=>(asI .i64 u10).bind fun x11=>(asI .i64 u11).bind fun x12=>(zhx F x1 x2 x3 x4 x5 x6 x7 x8 x9 x10 x11 x12).map fun r=>[.a [Iv r.1,Iv r.2],.s (Iv 0)]
    | _=>none)
    | _=>none)
  | _=>none
theorem k_sphere_Dot (F:Nat):LiftK Tryz.prog 72 (g_sphere_Dot F):=⟨fun vals r w h=>by
  unfold g_sphere_Dot at h
  split at h
  · rename_i v0 v1
    rw [Option.bind_eq_some_iff] at h; obtain ⟨l0,hl0,h⟩:=h
    have:=aggs_ok hl0; subst this
    split at h
    · rename_i u0 u1 u2 u3 u4 u5
      rw [Option.bind_eq_some_iff] at h; obtain ⟨l1,hl1,h⟩:=h
      have:=aggs_ok hl1; subst this
      split at h
      · rename_i u6 u7 u8 u9 u10 u11
        rw [Option.bind_eq_some_iff] at h; obtain ⟨x1,hx1,h⟩:=h
        have:=asI_ok hx1; subst this
        rw [Option.bind_eq_some_iff] at h; obtain ⟨x2,hx2,h⟩:=h
        have:=asI_ok hx2; subst this
        rw [Option.bind_eq_some_iff] at h; obtain ⟨x3,hx3,h⟩:=h
        have:=asI_ok hx3; subst this
        rw [Option.bind_eq_some_iff] at h; obtain ⟨x4,hx4,h⟩:=h
        have:=asI_ok hx4; subst this
        rw [Option.bind_eq_some_iff] at h; obtain ⟨x5,hx5,h⟩:=h
        have:=asI_ok hx5; subst this
        rw [Option.bind_eq_some_iff] at h; obtain ⟨x6,hx6,h⟩:=h
        have:=asI_ok hx6; subst this
        rw [Option.bind_eq_some_iff] at h; obtain ⟨x7,hx7,h⟩:=h
        have:=asI_ok hx7; subst this
        rw [Option.bind_eq_some_iff] at h; obtain ⟨x8,hx8,h⟩:=h
        have:=asI_ok hx8; subst this
        rw [Option.bind_eq_some_iff] at h; obtain ⟨x9,hx9,h⟩:=h
        have:=asI_ok hx9; subst this
        rw [Option.bind_eq_some_iff] at h; obtain ⟨x10,hx10,h⟩:=h
        have:=asI_ok hx10; subst this
        rw [Option.bind_eq_some_iff] at h; obtain ⟨x11,hx11,h⟩:=h
        have:=asI_ok hx11; subst this
        rw [Option.bind_eq_some_iff] at h; obtain ⟨x12,hx12,h⟩:=h
        have:=asI_ok hx12; subst this
        rw [Option.map_eq_some_iff] at h; obtain ⟨q,hq,h⟩:=h
        subst h
        exact Calls.mono (zi6 F x1 x2 x3 x4 x5 x6 x7 x8 x9 x10 x11 x12 w q hq) fun e w' ⟨_,he,hS⟩=>⟨he,hS⟩
      · cases h
    · cases h
  · cases h⟩
def g_sphere_Norm2 (F:Nat):List Value→Option (List Cp):=fun l=>match l with
  | [v0]=>(aggs v0).bind fun l0=>(match l0 with
    | [u0,u1,u2,u3,u4,u5]=>(asI .i64 u0).bind fun x1=>(asI .i64 u1).bind fun x2=>(asI .i64 u2).bind fun x3=>(asI .i64 u3).bind fun x4=>(asI .i64 u4).bind fun x5=>(asI .i64 u5).bind fun x6=>(zgD F x1 x2 x3 x4 x5 x6).map fun r=>[.a [Iv r.1,Iv r.2],.s (Iv 0)]
    | _=>none)
  | _=>none
theorem k_sphere_Norm2 (F:Nat):LiftK Tryz.prog 98 (g_sphere_Norm2 F):=⟨fun vals r w h=>by
  unfold g_sphere_Norm2 at h
  split at h
  · rename_i v0
    rw [Option.bind_eq_some_iff] at h; obtain ⟨l0,hl0,h⟩:=h
    have:=aggs_ok hl0; subst this
    split at h
    · rename_i u0 u1 u2 u3 u4 u5
      rw [Option.bind_eq_some_iff] at h; obtain ⟨x1,hx1,h⟩:=h
      have:=asI_ok hx1; subst this
      rw [Option.bind_eq_some_iff] at h; obtain ⟨x2,hx2,h⟩:=h
      have:=asI_ok hx2; subst this
      rw [Option.bind_eq_some_iff] at h; obtain ⟨x3,hx3,h⟩:=h
      have:=asI_ok hx3; subst this
      rw [Option.bind_eq_some_iff] at h; obtain ⟨x4,hx4,h⟩:=h
      have:=asI_ok hx4; subst this
      rw [Option.bind_eq_some_iff] at h; obtain ⟨x5,hx5,h⟩:=h
      have:=asI_ok hx5; subst this
      rw [Option.bind_eq_some_iff] at h; obtain ⟨x6,hx6,h⟩:=h
      have:=asI_ok hx6; subst this
      rw [Option.map_eq_some_iff] at h; obtain ⟨q,hq,h⟩:=h
      subst h
      exact Calls.mono (ziA F x1 x2 x3 x4 x5 x6 w q hq) fun e w' ⟨_,he,hS⟩=>⟨he,hS⟩
    · cases h
  · cases h⟩
def g_span_Sqrt (F:Nat):List Value→Option (List Cp):=fun l=>match l with
  | [v0]=>(aggs v0).bind fun l0=>(match l0 with
    | [u0,u1]=>(asI .i64 u0).bind fun x1=>(asI .i64 u1).bind fun x2=>(zhH F x1 x2).map fun r=>[.a [Iv r.1,Iv r.2],.s (Iv 0)]
    | _=>none)
  | _=>none
theorem k_span_Sqrt (F:Nat):LiftK Tryz.prog 99 (g_span_Sqrt F):=⟨fun vals r w h=>by
  unfold g_span_Sqrt at h
  split at h
  · rename_i v0
    rw [Option.bind_eq_some_iff] at h; obtain ⟨l0,hl0,h⟩:=h
    have:=aggs_ok hl0; subst this
    split at h
    · rename_i u0 u1
      rw [Option.bind_eq_some_iff] at h; obtain ⟨x1,hx1,h⟩:=h
      have:=asI_ok hx1; subst this
      rw [Option.bind_eq_some_iff] at h; obtain ⟨x2,hx2,h⟩:=h
      have:=asI_ok hx2; subst this
      rw [Option.map_eq_some_iff] at h; obtain ⟨q,hq,h⟩:=h
      subst h
      exact Calls.mono (zjh F x1 x2 w q hq) fun e w' ⟨_,he,hS⟩=>⟨he,hS⟩
    · cases h
  · cases h⟩
def dec27 (r:List Value):Option (Int × Int × Int × Int):=match r with
  | [c0,c1,c2,c3]=>(asI .i64 c0).bind fun y0=>(asI .i64 c1).bind fun y1=>(asI .i64 c2).bind fun y2=>(asI .i64 c3).bind fun y3=>some (y0,y1,y2,y3)
  | _=>none
theorem dec27_ok (r:List Value) (x:Int × Int × Int × Int) (h:dec27 r=some x):r=E27 x:=by
 unfold dec27 at h
 split at h
 · rename_i c0 c1 c2 c3
   rw [Option.bind_eq_some_iff] at h; obtain ⟨y0,h0,h⟩:=h; have:=asI_ok h0; subst this
   rw [Option.bind_eq_some_iff] at h; obtain ⟨y1,h1,h⟩:=h; have:=asI_ok h1; subst this
   rw [Option.bind_eq_some_iff] at h; obtain ⟨y2,h2,h⟩:=h; have:=asI_ok h2; subst this
   rw [Option.bind_eq_some_iff] at h; obtain ⟨y3,h3,h⟩:=h; have:=asI_ok h3; subst this
   rw [← Option.some.inj h]; rfl
 · cases h
def g_plan_Best (F:Nat):List Ar→Option (List (List Value) × List Cp):=fun l=>match l with
  | [a0]=>(arL dec27 a0).bind fun x2=>(zhI F x2).map fun r=>((r.1).map E45,[.s (Iv r.2.1),.s (Iv r.2.2)])
  | _=>none
theorem k_plan_Best (F:Nat):LiftS Tryz.prog 6 45 2 (g_plan_Best F):=⟨fun args vals r w h hg=>by
  unfold g_plan_Best at hg
  split at hg
  · rename_i a0
    obtain _ | ⟨k0,h⟩:=h; cases h
    rw [Option.bind_eq_some_iff] at hg; obtain ⟨x2,j0,hg⟩:=hg
    have s0_:=arL_ok (E:=E27) dec27_ok E27_len j0 k0
    rw [Option.map_eq_some_iff] at hg; obtain ⟨q,hq,hr⟩:=hg
    subst hr
    exact Calls.mono (zji F _ x2 w s0_ q hq) fun e w' ⟨g1,he,hS⟩=>⟨g1,he,rowsE_ok E45_len E45_one _,by rw [List.length_map,flat_map]; exact hS⟩
  · cases hg⟩
def dec3 (r:List Value):Option (Int):=match r with
  | [c0]=>(asI .i64 c0).bind fun y0=>some y0
  | _=>none
theorem dec3_ok (r:List Value) (x:Int) (h:dec3 r=some x):r=E3 x:=by
 unfold dec3 at h
 split at h
 · rename_i c0
   rw [Option.bind_eq_some_iff] at h; obtain ⟨y0,h0,h⟩:=h; have:=asI_ok h0; subst this
   rw [← Option.some.inj h]; rfl
 · cases h
def g_plan_Follow (F:Nat):List Ar→Option (List (List Value) × List Cp):=fun l=>match l with
  | [a0,a1]=>(arL dec27 a0).bind fun x2=>(arL dec3 a1).bind fun x4=>(zg5 F x2 x4).map fun r=>((r.1).map E45,[.s (Iv r.2)])
  | _=>none
theorem k_plan_Follow (F:Nat):LiftS Tryz.prog 12 45 2 (g_plan_Follow F):=⟨fun args vals r w h hg=>by
  unfold g_plan_Follow at hg
  split at hg
  · rename_i a0 a1
    obtain _ | ⟨k0,h⟩:=h; obtain _ | ⟨k1,h⟩:=h; cases h
    rw [Option.bind_eq_some_iff] at hg; obtain ⟨x2,j0,hg⟩:=hg
    have s0_:=arL_ok (E:=E27) dec27_ok E27_len j0 k0
    rw [Option.bind_eq_some_iff] at hg; obtain ⟨x4,j1,hg⟩:=hg
    have s1_:=arL_ok (E:=E3) dec3_ok E3_len j1 k1
    rw [Option.map_eq_some_iff] at hg; obtain ⟨q,hq,hr⟩:=hg
    subst hr
    exact Calls.mono (ziT F _ x2 _ x4 w s0_ s1_ q hq) fun e w' ⟨g1,he,hS⟩=>⟨g1,he,rowsE_ok E45_len E45_one _,by rw [List.length_map,flat_map]; exact hS⟩
  · cases hg⟩
def smL:SmT:=fun f=>match f with
  | 7=>some (gLift (g_plan_Spread 10000))
  | 51=>some (gLift (g_tracklet_Along 10000))
  | 127=>some (gLift (g_site_Turned 10000))
  | 126=>some (gLift (g_trig_Sin 10000))
  | 128=>some (gLift (g_span_Mul 10000))
  | 73=>some (gLift (g_span_Div 10000))
  | 70=>some (gLift (g_sphere_Unit 10000))
  | 72=>some (gLift (g_sphere_Dot 10000))
  | 98=>some (gLift (g_sphere_Norm2 10000))
  | 99=>some (gLift (g_span_Sqrt 10000))
  | 6=>some (gLiftS 45 2 (g_plan_Best 10000))
  | 12=>some (gLiftS 45 2 (g_plan_Follow 10000))
  | _=>none
theorem smL_ok:∀ f g,smL f=some g→∀ w0 X B vs H nx,(g B vs H nx).Ok (FunOK Tryz.prog w0 X B f vs H nx):=by
  intro f g h
  unfold smL at h
  split at h
  · simp only [Option.some.injEq] at h; subst h; exact gLift_ok (k_plan_Spread 10000)
  · simp only [Option.some.injEq] at h; subst h; exact gLift_ok (k_tracklet_Along 10000)
  · simp only [Option.some.injEq] at h; subst h; exact gLift_ok (k_site_Turned 10000)
  · simp only [Option.some.injEq] at h; subst h; exact gLift_ok (k_trig_Sin 10000)
  · simp only [Option.some.injEq] at h; subst h; exact gLift_ok (k_span_Mul 10000)
  · simp only [Option.some.injEq] at h; subst h; exact gLift_ok (k_span_Div 10000)
  · simp only [Option.some.injEq] at h; subst h; exact gLift_ok (k_sphere_Unit 10000)
  · simp only [Option.some.injEq] at h; subst h; exact gLift_ok (k_sphere_Dot 10000)
  · simp only [Option.some.injEq] at h; subst h; exact gLift_ok (k_sphere_Norm2 10000)
  · simp only [Option.some.injEq] at h; subst h; exact gLift_ok (k_span_Sqrt 10000)
  · simp only [Option.some.injEq] at h; subst h; exact gLiftS_ok (k_plan_Best 10000)
  · simp only [Option.some.injEq] at h; subst h; exact gLiftS_ok (k_plan_Follow 10000)
  · cases h
end Go.Proofs.YtjahppldcbbccaaGreatDoor

namespace Go.Proofs.YtjahppldcbbccaaGreatDoor
open Go Go.SL Go.RX
def nW:FuncId→Bool:=fun _=>false
theorem pn_pure:Pure0 Tryz.prog 3 (.bool true):=pure0_of (kp:=nW) (Sm:=smL) (wrF:=nW) (F:=1000) (m:=50) smL_ok (isTrueA_ans (by kernel_rfl))
end Go.Proofs.YtjahppldcbbccaaGreatDoor

namespace Go.SL
open Go Go.ChangeShapes Go.WideShapes Go.ChangeAt Go.RowKit
inductive LK where
  | int (k:IntKind)
  | bool
  | str
def LK.ok:LK→Value→Prop
  | .int k,v=>∃ n,v=.int k n∧(Lit.int k n).wf=true
  | .bool,v=>∃ b,v=.bool b
  | .str,v=>∃ s:ByteArray,v=.string s∧s.size≤maxLen
def AllK:List LK→List Value→Prop
  | [],cs=>cs=[]
  | k::ks,cs=>∃ v t,cs=v::t∧k.ok v∧AllK ks t
theorem AllK.app:∀ {ks ks':List LK} {a b:List Value},AllK ks a→AllK ks' b→AllK (ks++ks') (a++b)
  | [],_,a,b,h1,h2=>by
    have h1:a=[]:=h1
    subst h1; exact h2
  | k::ks,_,a,b,⟨v,t,h1,h2,h3⟩,h4=>by
    subst h1
    exact ⟨v,t++b,rfl,h2,AllK.app h3 h4⟩
def leafFs (P:Program) (f:TypeId→Option (List LK)):List Field→Nat→Option (List LK × Nat)
  | [],o=>some ([],o)
  | g::t,o=>if Nat.beq g.offset o=true then
      match f g.type with
      | some ks=>if Nat.beq ks.length (P.cellsOf g.type)=true then
          match leafFs P f t (o+ks.length) with
          | some (r,o')=>some (ks++r,o')
          | none=>none
        else none
      | none=>none
    else none
def leafK (P:Program):Nat→TypeId→Option (List LK)
  | 0,_=>none
  | d+1,t=>match P.underlying t with
    | some (.int k)=>some [.int k]
    | some .bool=>some [.bool]
    | some .string=>some [.str]
    | some (.struct fs)=>match leafFs P (leafK P d) fs.toList 0 with
      | some (ks,o)=>if Nat.beq o (P.cellsOf t)=true then some ks else none
      | none=>none
    | some (.array n e)=>match leafK P d e with
      | some ks=>if (Nat.beq ks.length (P.cellsOf e)&&Nat.beq (n*ks.length) (P.cellsOf t))=true then some (List.replicate n ks).flatten else none
      | none=>none
    | _=>none
section
variable {H:Type} {enc:TypeId × Value→H} {P:Program} {w:World} {base:Nat} {spare:Nat→Bool} {held:Bool}
end
theorem Below.trodAll {H:Type} {enc:TypeId × Value→H} {P:Program} (hl:laidOutB P=true) {W W':World} (hb:RowKit.Below W.heap.size W W'):∀ (ts:List TypeId) (vs:List Value) (ds:List (DataW H)) (p:List MemPlace),
    (ts.all fun t=>P.readableRec t&&Nat.blt t P.types.size)=true→DataW.TrodAll enc P W 0 (fun _=>true) true ts vs ds p→(∀ x ∈ p,x.block<W.heap.size)→DataW.TrodAll enc P W' 0 (fun b=>decide (b<W.heap.size)) true ts vs ds p
  | [],[],[],p,_,h,_=>h
  | [],[],_::_,p,_,h,_=>by simp [DataW.TrodAll] at h
  | [],_::_,_,p,_,h,_=>by simp [DataW.TrodAll] at h
  | _::_,[],_,p,_,h,_=>by simp [DataW.TrodAll] at h
  | _::_,_::_,[],p,_,h,_=>by simp [DataW.TrodAll] at h
  | t::ts,v::vs,d::ds,p,ha,h,hlt=>by
    simp only [List.all_cons,Bool.and_eq_true] at ha
    obtain ⟨p1,p2,h1,h2,rfl⟩:=h
    exact ⟨p1,p2,RowKit.Below.trod hl ha.1.1 (by simpa using ha.1.2) h1 hb (fun x hx=>hlt x (List.mem_append_left _ hx)),Below.trodAll hl hb ts vs ds p2 ha.2 h2 (fun x hx=>hlt x (List.mem_append_right _ hx)),rfl⟩
theorem trodAll_unnil {H:Type} {enc:TypeId × Value→H} {P:Program} {w:World} {base:Nat} {spare:Nat→Bool} {held:Bool} {args:List Value} {ds:List (DataW H)} {p:List MemPlace}
    (h:DataW.TrodAll enc P w base spare held [] args ds p):args=[]∧ds=[]:=by
  cases args with
  | nil =>
    cases ds with
    | nil=>exact ⟨rfl,rfl⟩
    | cons=>simp [DataW.TrodAll] at h
  | cons=>simp [DataW.TrodAll] at h
end Go.SL

namespace Go.Proofs.YtjahppldcbbccaaGreatDoor
open Go Go.SL Go.RX Go.ChangeShapes Go.WideShapes Go.ChangeAt Go.RowKit
theorem Tryz.own:ownKnob Tryz.prog.godebug=none:=by kernel_rfl
theorem Tryz.laidOut:laidOutB Tryz.prog=true:=by kernel_rfl
theorem door_met (os:Os) (args:Array Value):laidMetH Tryz.prog Rows.planNamesRow.laid ((World.laidAll Tryz.prog os Rows.planNamesRow.laid).forCall (fun _ _=>0) ⟨#[],args,[]⟩).memory:=by
  rw [MakeChecks.laidMetH_plain _ _ _ (by kernel_rfl)]
  exact laidMet_laidAll _ (by kernel_rfl) (by kernel_rfl)
set_option maxRecDepth 100000 in
theorem planNames_lifted (os:Os) (started:os.Started) (H:Type) (enc:TypeId × Value→H) :
    ReturnsInHanded {} Tryz.checked os 3 .any (fun w args=>(Rows.planNamesSpec.pre enc Tryz.prog Tryz.f3 [] false w args∧laidMetH Tryz.prog Rows.planNamesRow.laid w)∧sizedMet enc Tryz.prog Tryz.f3 (OpenSpec.ofChange Rows.planNamesSpec) false w args) (Rows.planNamesSpec.post enc Tryz.prog Tryz.f3 false true false false):=by
  refine returnsInHanded_of_change_and (C:=Tryz.checked) (X:=fun w _=>laidMetH Tryz.prog Rows.planNamesRow.laid w) (fun _ _ _ hh h=>h.of_heap hh) Tryz.own started (by kernel_rfl) Tryz.func3
    (ChangeSpec.witness_shaped (enc:=enc) (C:=Tryz.checked) (os:=os) (X:=fun w _=>laidMetH Tryz.prog Rows.planNamesRow.laid w) false (World.laidAll Tryz.prog os Rows.planNamesRow.laid) #[] 8 rfl (World.shaped_of_ZipB (by kernel_rfl) (by kernel_rfl)) (by kernel_rfl) (by kernel_rfl) (by kernel_rfl) (door_met os _)) ?_
  intro W base args ds gs before hval0 hW _ _ hL _
  have hW':=hW
  obtain ⟨p,q,hA0,hV,rfl,hfz,hnd⟩:=hW
  have hA:DataW.TrodAll enc Tryz.prog W 0 (fun _=>true) true [] args.toList ds p:=hA0
  obtain ⟨rfl,rfl⟩:=trodVars_none hV
  have hA':=hA
  obtain ⟨e1,rfl⟩:=trodAll_unnil hA
  obtain rfl:args=#[]:=by
    apply Array.ext'
    simpa using e1
  refine Calls.mono (pn_pure W) fun e W' ⟨he,hS⟩=>?_
  subst he
  have hb:RowKit.Below W.heap.size W W':=⟨hS.os,hS.tape,hS.output,hS.size,fun k hk=>hS.old k hk (fun h=>h)⟩
  refine ⟨_,rfl,_,_,_,[],p,[],hW',trodAll_mk1 (shut_bool Tryz.underlying4 true),?_,?_,hb.frame _,fun h=>by cases h⟩
  · have hl:=hW'.lt
    simp only [List.append_nil] at hl
    exact Below.trodAll Tryz.laidOut hb _ _ _ _ (by kernel_rfl) hA' (fun x hx=>hl x (by simpa using hx))
  · rfl
theorem planNames_holds:Rows.PlanNamesSaid :=
  OpenClaim.holds_of_wide 3 Tryz.f3 rfl rfl rfl rfl rfl rfl rfl ⟨rfl,rfl,rfl,rfl,rfl⟩ rfl rfl rfl rfl rfl (by kernel_rfl) Tryz.func3 (by kernel_rfl)
    (of_decide_eq_true (by kernel_rfl)) (by unfold Func.isWrapper; first | (rw [if_pos (by decide +kernel)]; kernel_rfl) | (rw [if_neg (by decide +kernel)]; exact ⟨rfl,rfl⟩))
    (fun os started H enc _=>planNames_lifted os started H enc)
end Go.Proofs.YtjahppldcbbccaaGreatDoor

namespace Go.Proofs.YtjahppldcbbccaaGreatDoor
open Go
theorem planNamesCard_holds:Rows.PlanNamesCardSaid :=
  Claim7.holds_tied_plain_at .later [] [.data,.pinned] true (true,"753c8480d77c7e8d0c48781b99e3e3746eff52168c3385ded3120c06f95aa093") true
    planNames_holds (fun _ h=>by cases h) (by kernel_rfl) (fun _ h=>by cases h) planNames_row_tie rfl ⟨rfl,rfl⟩ (by kernel_rfl) rfl
    (fun f fn hf hfn=>by
      obtain rfl:f=3:=Option.some.inj ((show Tryz.prog.funcNamed "planisphere/planispherelaw42.PlanNames"=some 3 by kernel_rfl).symm.trans hf) |>.symm
      obtain rfl:fn=Tryz.f3:=(Option.some.inj (Tryz.func3.symm.trans hfn)).symm
      exact ⟨by kernel_rfl,fun j t ht=>by
        rw [show Tryz.f3.params=#[] by kernel_rfl] at ht
        simp at ht⟩)
    (by kernel_rfl)
end Go.Proofs.YtjahppldcbbccaaGreatDoor
