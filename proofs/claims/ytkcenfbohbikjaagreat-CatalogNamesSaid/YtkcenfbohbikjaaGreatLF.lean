/- Lifted functions as summaries for the reckoner. -/
import Derived.Test.YtkcenfbohbikjaaGreatRXL
import Derived.Test.YtkcenfbohbikjaaGreatWad
set_option linter.unusedVariables false
set_option linter.unusedSimpArgs false
namespace Go.Proofs.YtkcenfbohbikjaaGreat
open Go Go.SL Go.RX
def g_catalog_Check (F:Nat):List Value→Option (List Cp):=fun l=>match l with
  | [v0]=>(aggs v0).bind fun l0=>(match l0 with
    | [u0,u1,u2,u3,u4,u5,u6,u7]=>(asT u0).bind fun x1=>(asI .i64 u1).bind fun x2=>(asI .i64 u2).bind fun x3=>(asI .i64 u3).bind fun x4=>(asI .i64 u4).bind fun x5=>(asI .i64 u5).bind fun x6=>(asI .i64 u6).bind fun x7=>(asI .i64 u7).bind fun x8=>(zdj F x1 x2 x3 x4 x5 x6 x7 x8).map fun r=>[.s (Iv r)]
    | _=>none)
  | _=>none
theorem k_catalog_Check (F:Nat):LiftK Tryz.prog 10 (g_catalog_Check F):=⟨fun vals r w h=>by
  unfold g_catalog_Check at h
  split at h
  · rename_i v0
    rw [Option.bind_eq_some_iff] at h; obtain ⟨l0,hl0,h⟩:=h
    have:=aggs_ok hl0; subst this
    split at h
    · rename_i u0 u1 u2 u3 u4 u5 u6 u7
      rw [Option.bind_eq_some_iff] at h; obtain ⟨x1,hx1,h⟩:=h
      have:=asT_ok hx1; subst this
      rw [Option.bind_eq_some_iff] at h; obtain ⟨x2,hx2,h⟩:=h
      have:=asI_ok hx2; subst this
      rw [Option.bind_eq_some_iff] at h; obtain ⟨x3,hx3,h⟩:=h
      have:=asI_ok hx3; subst this
      rw [Option.bind_eq_some_iff] at h; obtain ⟨x4,hx4,h⟩:=h
      have:=asI_ok hx4; subst this
      rw [Option.bind_eq_some_iff] at h; obtain ⟨x5,hx5,h⟩:=h
      have:=asI_ok hx5; subst this
      rw [Option.bind_eq_some_iff] at h; obtain ⟨x6,hx6,h⟩:=h
      have:=asI_ok hx6; subst this
      rw [Option.bind_eq_some_iff] at h; obtain ⟨x7,hx7,h⟩:=h
      have:=asI_ok hx7; subst this
      rw [Option.bind_eq_some_iff] at h; obtain ⟨x8,hx8,h⟩:=h
      have:=asI_ok hx8; subst this
      rw [Option.map_eq_some_iff] at h; obtain ⟨q,hq,h⟩:=h
      subst h
      exact Calls.mono (zfp F x1 x2 x3 x4 x5 x6 x7 x8 w q hq) fun e w' ⟨_,he,hS⟩=>⟨he,hS⟩
    · cases h
  · cases h⟩
def g_catalog_Place (F:Nat):List Value→Option (List Cp):=fun l=>match l with
  | [v0,v1]=>(aggs v0).bind fun l0=>(match l0 with
    | [u0,u1,u2,u3,u4,u5,u6,u7]=>(asT u0).bind fun x1=>(asI .i64 u1).bind fun x2=>(asI .i64 u2).bind fun x3=>(asI .i64 u3).bind fun x4=>(asI .i64 u4).bind fun x5=>(asI .i64 u5).bind fun x6=>(asI .i64 u6).bind fun x7=>(asI .i64 u7).bind fun x8=>(asI .i64 v1).bind fun x9=>(zeU F x1 x2 x3 x4 x5 x6 x7 x8 x9).map fun r=>[.s (Iv r.1),.s (Iv r.2.1),.s (Iv r.2.2)]
    | _=>none)
  | _=>none
theorem k_catalog_Place (F:Nat):LiftK Tryz.prog 5 (g_catalog_Place F):=⟨fun vals r w h=>by
  unfold g_catalog_Place at h
  split at h
  · rename_i v0 v1
    rw [Option.bind_eq_some_iff] at h; obtain ⟨l0,hl0,h⟩:=h
    have:=aggs_ok hl0; subst this
    split at h
    · rename_i u0 u1 u2 u3 u4 u5 u6 u7
      rw [Option.bind_eq_some_iff] at h; obtain ⟨x1,hx1,h⟩:=h
      have:=asT_ok hx1; subst this
      rw [Option.bind_eq_some_iff] at h; obtain ⟨x2,hx2,h⟩:=h
      have:=asI_ok hx2; subst this
      rw [Option.bind_eq_some_iff] at h; obtain ⟨x3,hx3,h⟩:=h
      have:=asI_ok hx3; subst this
      rw [Option.bind_eq_some_iff] at h; obtain ⟨x4,hx4,h⟩:=h
      have:=asI_ok hx4; subst this
      rw [Option.bind_eq_some_iff] at h; obtain ⟨x5,hx5,h⟩:=h
      have:=asI_ok hx5; subst this
      rw [Option.bind_eq_some_iff] at h; obtain ⟨x6,hx6,h⟩:=h
      have:=asI_ok hx6; subst this
      rw [Option.bind_eq_some_iff] at h; obtain ⟨x7,hx7,h⟩:=h
      have:=asI_ok hx7; subst this
      rw [Option.bind_eq_some_iff] at h; obtain ⟨x8,hx8,h⟩:=h
      have:=asI_ok hx8; subst this
      rw [Option.bind_eq_some_iff] at h; obtain ⟨x9,hx9,h⟩:=h
      have:=asI_ok hx9; subst this
      rw [Option.map_eq_some_iff] at h; obtain ⟨q,hq,h⟩:=h
      subst h
      exact Calls.mono (zgJ F x1 x2 x3 x4 x5 x6 x7 x8 x9 w q hq) fun e w' ⟨_,he,hS⟩=>⟨he,hS⟩
    · cases h
  · cases h⟩
def g_sphere_Unit (F:Nat):List Value→Option (List Cp):=fun l=>match l with
  | [v0,v1]=>(asI .i64 v0).bind fun x1=>(asI .i64 v1).bind fun x2=>(zfz F x1 x2).map fun r=>[.a [Iv r.1,Iv r.2.1,Iv r.2.2.1,Iv r.2.2.2.1,Iv r.2.2.2.2.1,Iv r.2.2.2.2.2.1],.s (Iv r.2.2.2.2.2.2)]
  | _=>none
theorem k_sphere_Unit (F:Nat):LiftK Tryz.prog 19 (g_sphere_Unit F):=⟨fun vals r w h=>by
  unfold g_sphere_Unit at h
  split at h
  · rename_i v0 v1
    rw [Option.bind_eq_some_iff] at h; obtain ⟨x1,hx1,h⟩:=h
    have:=asI_ok hx1; subst this
    rw [Option.bind_eq_some_iff] at h; obtain ⟨x2,hx2,h⟩:=h
    have:=asI_ok hx2; subst this
    rw [Option.map_eq_some_iff] at h; obtain ⟨q,hq,h⟩:=h
    subst h
    exact Calls.mono (zg7 F x1 x2 w q hq) fun e w' ⟨_,he,hS⟩=>⟨he,hS⟩
  · cases h⟩
def g_sphere_Within (F:Nat):List Value→Option (List Cp):=fun l=>match l with
  | [v0,v1,v2]=>(aggs v0).bind fun l0=>(match l0 with
    | [u0,u1,u2,u3,u4,u5]=>(aggs v1).bind fun l1=>(match l1 with
    | [u6,u7,u8,u9,u10,u11]=>(asI .i64 u0).bind fun x1=>(asI .i64 u1).bind fun x2=>(asI .i64 u2).bind fun x3=>(asI .i64 u3).bind fun x4=>(asI .i64 u4).bind fun x5=>(asI .i64 u5).bind fun x6=>(asI .i64 u6).bind fun x7=>(asI .i64 u7).bind fun x8=>(asI .i64 u8).bind fun x9=>(asI .i64 u9).bind fun x10=>(asI .i64 u10).bind fun x11=>(asI .i64 u11).bind fun x12=>(asI .i64 v2).bind fun x13=>(ze0 F x1 x2 x3 x4 x5 x6 x7 x8 x9 x10 x11 x12 x13).map fun r=>[.s (Bv r.1),.s (Bv r.2.1),.s (Iv r.2.2)]
    | _=>none)
    | _=>none)
  | _=>none
theorem k_sphere_Within (F:Nat):LiftK Tryz.prog 21 (g_sphere_Within F):=⟨fun vals r w h=>by
  unfold g_sphere_Within at h
  split at h
  · rename_i v0 v1 v2
    rw [Option.bind_eq_some_iff] at h; obtain ⟨l0,hl0,h⟩:=h
    have:=aggs_ok hl0; subst this
    split at h
    · rename_i u0 u1 u2 u3 u4 u5
      rw [Option.bind_eq_some_iff] at h; obtain ⟨l1,hl1,h⟩:=h
      have:=aggs_ok hl1; subst this
      split at h
      · rename_i u6 u7 u8 u9 u10 u11
        rw [Option.bind_eq_some_iff] at h; obtain ⟨x1,hx1,h⟩:=h
        have:=asI_ok hx1; subst this
        rw [Option.bind_eq_some_iff] at h; obtain ⟨x2,hx2,h⟩:=h
        have:=asI_ok hx2; subst this
        rw [Option.bind_eq_some_iff] at h; obtain ⟨x3,hx3,h⟩:=h
        have:=asI_ok hx3; subst this
        rw [Option.bind_eq_some_iff] at h; obtain ⟨x4,hx4,h⟩:=h
        have:=asI_ok hx4; subst this
        rw [Option.bind_eq_some_iff] at h; obtain ⟨x5,hx5,h⟩:=h
        have:=asI_ok hx5; subst this
        rw [Option.bind_eq_some_iff] at h; obtain ⟨x6,hx6,h⟩:=h
        have:=asI_ok hx6; subst this
        rw [Option.bind_eq_some_iff] at h; obtain ⟨x7,hx7,h⟩:=h
        have:=asI_ok hx7; subst this
        rw [Option.bind_eq_some_iff] at h; obtain ⟨x8,hx8,h⟩:=h
        have:=asI_ok hx8; subst this
        rw [Option.bind_eq_some_iff] at h; obtain ⟨x9,hx9,h⟩:=h
        have:=asI_ok hx9; subst this
        rw [Option.bind_eq_some_iff] at h; obtain ⟨x10,hx10,h⟩:=h
        have:=asI_ok hx10; subst this
        rw [Option.bind_eq_some_iff] at h; obtain ⟨x11,hx11,h⟩:=h
        have:=asI_ok hx11; subst this
        rw [Option.bind_eq_some_iff] at h; obtain ⟨x12,hx12,h⟩:=h
        have:=asI_ok hx12; subst this
        rw [Option.bind_eq_some_iff] at h; obtain ⟨x13,hx13,h⟩:=h
        have:=asI_ok hx13; subst this
        rw [Option.map_eq_some_iff] at h; obtain ⟨q,hq,h⟩:=h
        subst h
        exact Calls.mono (zgP F x1 x2 x3 x4 x5 x6 x7 x8 x9 x10 x11 x12 x13 w q hq) fun e w' ⟨_,he,hS⟩=>⟨he,hS⟩
      · cases h
    · cases h
  · cases h⟩
def g_sphere_Check (F:Nat):List Value→Option (List Cp):=fun l=>match l with
  | [v0]=>(aggs v0).bind fun l0=>(match l0 with
    | [u0,u1,u2,u3,u4,u5]=>(asI .i64 u0).bind fun x1=>(asI .i64 u1).bind fun x2=>(asI .i64 u2).bind fun x3=>(asI .i64 u3).bind fun x4=>(asI .i64 u4).bind fun x5=>(asI .i64 u5).bind fun x6=>(zcQ F x1 x2 x3 x4 x5 x6).map fun r=>[.s (Iv r)]
    | _=>none)
  | _=>none
theorem k_sphere_Check (F:Nat):LiftK Tryz.prog 22 (g_sphere_Check F):=⟨fun vals r w h=>by
  unfold g_sphere_Check at h
  split at h
  · rename_i v0
    rw [Option.bind_eq_some_iff] at h; obtain ⟨l0,hl0,h⟩:=h
    have:=aggs_ok hl0; subst this
    split at h
    · rename_i u0 u1 u2 u3 u4 u5
      rw [Option.bind_eq_some_iff] at h; obtain ⟨x1,hx1,h⟩:=h
      have:=asI_ok hx1; subst this
      rw [Option.bind_eq_some_iff] at h; obtain ⟨x2,hx2,h⟩:=h
      have:=asI_ok hx2; subst this
      rw [Option.bind_eq_some_iff] at h; obtain ⟨x3,hx3,h⟩:=h
      have:=asI_ok hx3; subst this
      rw [Option.bind_eq_some_iff] at h; obtain ⟨x4,hx4,h⟩:=h
      have:=asI_ok hx4; subst this
      rw [Option.bind_eq_some_iff] at h; obtain ⟨x5,hx5,h⟩:=h
      have:=asI_ok hx5; subst this
      rw [Option.bind_eq_some_iff] at h; obtain ⟨x6,hx6,h⟩:=h
      have:=asI_ok hx6; subst this
      rw [Option.map_eq_some_iff] at h; obtain ⟨q,hq,h⟩:=h
      subst h
      exact Calls.mono (zd9 F x1 x2 x3 x4 x5 x6 w q hq) fun e w' ⟨_,he,hS⟩=>⟨he,hS⟩
    · cases h
  · cases h⟩
def smL:SmT:=fun f=>match f with
  | 10=>some (gLift (g_catalog_Check 10000))
  | 5=>some (gLift (g_catalog_Place 10000))
  | 19=>some (gLift (g_sphere_Unit 10000))
  | 21=>some (gLift (g_sphere_Within 10000))
  | 22=>some (gLift (g_sphere_Check 10000))
  | _=>none
theorem smL_ok:∀ f g,smL f=some g→∀ w0 X B vs H nx,(g B vs H nx).Ok (FunOK Tryz.prog w0 X B f vs H nx):=by
  intro f g h
  unfold smL at h
  split at h
  · simp only [Option.some.injEq] at h; subst h; exact gLift_ok (k_catalog_Check 10000)
  · simp only [Option.some.injEq] at h; subst h; exact gLift_ok (k_catalog_Place 10000)
  · simp only [Option.some.injEq] at h; subst h; exact gLift_ok (k_sphere_Unit 10000)
  · simp only [Option.some.injEq] at h; subst h; exact gLift_ok (k_sphere_Within 10000)
  · simp only [Option.some.injEq] at h; subst h; exact gLift_ok (k_sphere_Check 10000)
  · cases h
end Go.Proofs.YtkcenfbohbikjaaGreat
