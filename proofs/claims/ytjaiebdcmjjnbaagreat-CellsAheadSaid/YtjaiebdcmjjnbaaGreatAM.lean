/- The plain law: what Of and Ahead reckon is what the reference reckons. -/
import Derived.Test.YtjaiebdcmjjnbaaGreatWad
import Derived.Test.YtjaiebdcmjjnbaaGreatIntLaws
set_option linter.unusedVariables false
set_option linter.unusedSimpArgs false
namespace Go.Proofs.YtjaiebdcmjjnbaaGreat
open Go Go.SL
abbrev W64:Int:=18446744073709551616
def Wd (x:Int):Prop:=0≤x∧x<18446744073709551616
def I64 (x:Int):Prop:=-9223372036854775808≤x∧x≤9223372036854775807
def Tw (z:Int):Prop:=-85070591730234615865843651857942052864≤z∧z≤85070591730234615865843651857942052864
theorem mul64_spec {F:Nat} {x y:Int} (hx:Wd x) (hy:Wd y):zdf F x y=some (x*y/18446744073709551616,x*y % 18446744073709551616):=by
  unfold zdf
  simp only [Option.bind_some]
  rw [mul64 hx hy rfl rfl rfl,u64w]
theorem mul_tw {a b:Int} (ha:I64 a) (hb:I64 b):Tw (a*b):=by
  obtain ⟨a1,a2⟩:=ha
  obtain ⟨b1,b2⟩:=hb
  have h1:=Int.mul_nonneg (show 0≤9223372036854775808-a by omega) (show 0≤9223372036854775808-b by omega)
  have h2:=Int.mul_nonneg (show 0≤9223372036854775808+a by omega) (show 0≤9223372036854775808+b by omega)
  have h3:=Int.mul_nonneg (show 0≤9223372036854775808-a by omega) (show 0≤9223372036854775808+b by omega)
  have h4:=Int.mul_nonneg (show 0≤9223372036854775808+a by omega) (show 0≤9223372036854775808-b by omega)
  have e1:(9223372036854775808-a)*(9223372036854775808-b)=85070591730234615865843651857942052864-9223372036854775808*a-9223372036854775808*b+a*b:=by grind
  have e2:(9223372036854775808+a)*(9223372036854775808+b)=85070591730234615865843651857942052864+9223372036854775808*a+9223372036854775808*b+a*b:=by grind
  have e3:(9223372036854775808-a)*(9223372036854775808+b)=85070591730234615865843651857942052864-9223372036854775808*a+9223372036854775808*b-a*b:=by grind
  have e4:(9223372036854775808+a)*(9223372036854775808-b)=85070591730234615865843651857942052864+9223372036854775808*a-9223372036854775808*b-a*b:=by grind
  rw [e1] at h1; rw [e2] at h2; rw [e3] at h3; rw [e4] at h4
  constructor <;> omega
theorem u64_neg {a:Int} (ha:I64 a) (h:a<0):IntKind.u64.wrap a=a+18446744073709551616:=by
  obtain ⟨a1,a2⟩:=ha
  rw [u64w]; omega
theorem u64_pos {a:Int} (ha:I64 a) (h:¬ a<0):IntKind.u64.wrap a=a:=by
  obtain ⟨a1,a2⟩:=ha
  rw [u64w]; omega
theorem times_spec {F:Nat} {a b:Int} (ha:I64 a) (hb:I64 b):zbc F a b=some (a*b/18446744073709551616,a*b % 18446744073709551616):=by
  have hz:=mul_tw ha hb
  unfold zbc zdN zdM
  rw [mul64_spec (u64_rng _) (u64_rng _)]
  simp only [Option.bind_some]
  obtain ⟨z1,z2⟩:=hz
  have ha':=ha
  have hb':=hb
  obtain ⟨a1,a2⟩:=ha
  obtain ⟨b1,b2⟩:=hb
  by_cases ha0:a<0
  · by_cases hb0:b<0
    · have e:(a+18446744073709551616)*(b+18446744073709551616)=a*b+18446744073709551616*a+18446744073709551616*b+340282366920938463463374607431768211456:=by grind
      rw [u64_neg ha' ha0,u64_neg hb' hb0,if_pos ha0,if_pos hb0,e]
      generalize a*b=z at *
      simp only [i64w,Option.some.injEq,Prod.mk.injEq]
      omega
    · have e:(a+18446744073709551616)*b=a*b+18446744073709551616*b:=by grind
      rw [u64_neg ha' ha0,u64_pos hb' hb0,if_pos ha0,if_neg hb0,e]
      generalize a*b=z at *
      simp only [i64w,Option.some.injEq,Prod.mk.injEq]
      omega
  · by_cases hb0:b<0
    · have e:a*(b+18446744073709551616)=a*b+18446744073709551616*a:=by grind
      rw [u64_pos ha' ha0,u64_neg hb' hb0,if_neg ha0,if_pos hb0,e]
      generalize a*b=z at *
      simp only [i64w,Option.some.injEq,Prod.mk.injEq]
      omega
    · rw [u64_pos ha' ha0,u64_pos hb' hb0,if_neg ha0,if_neg hb0]
      generalize a*b=z at *
      simp only [i64w,Option.some.injEq,Prod.mk.injEq,and_true]
      omega
theorem neg_spec {F:Nat} {z:Int} (hz:Tw z):zbD F (z/18446744073709551616) (z % 18446744073709551616)=some (-z/18446744073709551616,-z % 18446744073709551616):=by
  obtain ⟨z1,z2⟩:=hz
  unfold zbD sub64b sub64d
  simp only [Option.bind_some,i64w,Option.some.injEq,Prod.mk.injEq]
  have h0:Int.toNat 0=0:=rfl
  rw [h0]
  constructor
  · split <;> omega
  · omega
theorem tab_ok:(List.range 256).all (fun z=>match strIdx strc1 (z:Int) with
    | some n=>decide (0≤n∧n≤8∧(z:Int)<2^n.toNat∧(z=0∨(2:Int)^(n.toNat-1)≤(z:Int)∧1≤n))
    | none=>false)=true:=by kernel_rfl
theorem tab_spec {z:Int} (h:0≤z∧z<256):∃ n,strIdx strc1 z=some n∧0≤n∧n≤8∧z<2^n.toNat∧(z=0∨(2:Int)^(n.toNat-1)≤z∧1≤n):=by
  have h1:=List.all_eq_true.1 tab_ok z.toNat (by simp; omega)
  have e:((z.toNat:Nat):Int)=z:=by omega
  rw [e] at h1
  cases hs:strIdx strc1 z with
  | none=>rw [hs] at h1; cases h1
  | some n =>
    rw [hs] at h1
    simp only [decide_eq_true_eq] at h1
    refine ⟨n,rfl,h1.1,h1.2.1,h1.2.2.1,?_⟩
    rcases h1.2.2.2 with h2 | h2
    · exact .inl (by omega)
    · exact .inr h2
theorem len_j1 {F:Nat} {z k:Int} (hz:0<z∧z<256) (hk:0≤k∧k≤56):∃ n,zbP F z k=some n∧k+1≤n∧n≤k+8∧2^(n-k-1).toNat≤z∧z<2^(n-k).toNat:=by
  unfold zbP
  have e8:IntKind.u8.wrap z=z:=by rw [IntKind.wrap_u8]; omega
  obtain ⟨n,h1,h2,h3,h4,h5⟩:=tab_spec (z:=z) (by omega)
  rw [e8,h1]
  simp only [Option.bind_some]
  refine ⟨k+n,by rw [i64_of (x:=n) (by omega),i64_of (by omega)],?_⟩
  rcases h5 with h5 | ⟨h5,h6⟩
  · omega
  · have e1:(k+n-k-1).toNat=n.toNat-1:=by omega
    have e2:(k+n-k).toNat=n.toNat:=by omega
    rw [e1,e2]
    exact ⟨by omega,by omega,h5,h4⟩
def LenOK (y k:Int) (o:Option Int):Prop:=∃ n,o=some n∧k+1≤n∧n≤k+64∧2^(n-k-1).toNat≤y∧y<2^(n-k).toNat
theorem pow_split {a b:Int} (ha:0≤a) (hb:0≤b):(2:Int)^(a+b).toNat=2^a.toNat*2^b.toNat:=by
  rw [show (a+b).toNat=a.toNat+b.toNat by omega,Int.pow_add]
theorem len_up {y k c n:Int} {C:Int} (hc:0≤c) (hC:(2:Int)^c.toNat=C) (hC0:0<C) (h1:k+c+1≤n) (h2:2^(n-(k+c)-1).toNat≤y/C) (h3:y/C<2^(n-(k+c)).toNat) :
    2^(n-k-1).toNat≤y∧y<2^(n-k).toNat:=by
  have e1:n-k-1=(n-(k+c)-1)+c:=by omega
  have e2:n-k=(n-(k+c))+c:=by omega
  rw [e1,pow_split (by omega) hc,e2,pow_split (by omega) hc,hC]
  generalize (2:Int)^(n-(k+c)-1).toNat=p at *
  generalize (2:Int)^(n-(k+c)).toNat=q at *
  constructor
  · exact Int.le_trans (Int.mul_le_mul_of_nonneg_right h2 (Int.le_of_lt hC0)) (Int.ediv_mul_le y (by omega))
  · exact (Int.ediv_lt_iff_lt_mul hC0).1 h3
theorem len_j2 {F:Nat} {y k:Int} (hy:0<y∧y<65536) (hk:0≤k∧k≤48):∃ n,zbQ F y k=some n∧k+1≤n∧n≤k+16∧2^(n-k-1).toNat≤y∧y<2^(n-k).toNat:=by
  unfold zbQ
  by_cases h:y≥256
  · rw [if_pos h,i64_of (by omega),fdiv_pow]
    obtain ⟨n,h1,h2,h3,h4,h5⟩:=len_j1 (F:=F) (z:=y/2^8) (k:=k+8) (by omega) (by omega)
    exact ⟨n,h1,by omega,by omega,len_up (c:=8) (C:=2^8) (by decide) (by decide) (by decide) (by omega) h4 h5⟩
  · rw [if_neg h]
    obtain ⟨n,h1,h2,h3,h4⟩:=len_j1 (F:=F) (z:=y) (k:=k) (by omega) (by omega)
    exact ⟨n,h1,by omega,by omega,h4⟩
theorem len_j3 {F:Nat} {y k:Int} (hy:0<y∧y<4294967296) (hk:0≤k∧k≤32):∃ n,zbR F y k=some n∧k+1≤n∧n≤k+32∧2^(n-k-1).toNat≤y∧y<2^(n-k).toNat:=by
  unfold zbR
  by_cases h:y≥65536
  · rw [if_pos h,i64_of (by omega),fdiv_pow]
    obtain ⟨n,h1,h2,h3,h4,h5⟩:=len_j2 (F:=F) (y:=y/2^16) (k:=k+16) (by omega) (by omega)
    exact ⟨n,h1,by omega,by omega,len_up (c:=16) (C:=2^16) (by decide) (by decide) (by decide) (by omega) h4 h5⟩
  · rw [if_neg h]
    obtain ⟨n,h1,h2,h3,h4⟩:=len_j2 (F:=F) (y:=y) (k:=k) (by omega) (by omega)
    exact ⟨n,h1,by omega,by omega,h4⟩
theorem len64_spec {F:Nat} {y:Int} (hy:0<y∧y<18446744073709551616):∃ n,zdg F y=some n∧1≤n∧n≤64∧2^(n-1).toNat≤y∧y<2^n.toNat:=by
  unfold zdg
  by_cases h:y≥4294967296
  · rw [if_pos h,fdiv_pow]
    obtain ⟨n,h1,h2,h3,h4,h5⟩:=len_j3 (F:=F) (y:=y/2^32) (k:=32) (by omega) (by omega)
    have:=len_up (y:=y) (k:=0) (c:=32) (C:=2^32) (n:=n) (by decide) (by decide) (by decide) (by omega) h4 h5
    rw [show n-0-1=n-1 by omega,show n-0=n by omega] at this
    exact ⟨n,h1,by omega,by omega,this⟩
  · rw [if_neg h]
    obtain ⟨n,h1,h2,h3,h4⟩:=len_j3 (F:=F) (y:=y) (k:=0) (by omega) (by omega)
    rw [show n-0-1=n-1 by omega,show n-0=n by omega] at h4
    exact ⟨n,h1,by omega,by omega,h4⟩
theorem shift_ok {F:Nat} {y:Int} (hy:0<y∧y<18446744073709551616):∃ s,zbA F y=some s∧0≤s∧s≤63∧9223372036854775808≤y*2^s.toNat∧y*2^s.toNat<18446744073709551616:=by
  unfold zbA
  obtain ⟨n,h1,h2,h3,h4,h5⟩:=len64_spec (F:=F) hy
  rw [h1]
  simp only [Option.bind_some]
  refine ⟨64-n,by rw [i64_of (by omega)],by omega,by omega,?_⟩
  have e1:(2:Int)^(n-1).toNat*2^(64-n).toNat=9223372036854775808:=by
    rw [← pow_split (by omega) (by omega),show n-1+(64-n)=63 by omega]; rfl
  have e2:(2:Int)^n.toNat*2^(64-n).toNat=18446744073709551616:=by
    rw [← pow_split (by omega) (by omega),show n+(64-n)=64 by omega]; rfl
  have hp:0<(2:Int)^(64-n).toNat:=Int.pow_pos (by decide)
  rw [← e1]
  rw [← e2]
  exact ⟨Int.mul_le_mul_of_nonneg_right h4 (Int.le_of_lt hp),Int.mul_lt_mul_of_pos_right h5 hp⟩
theorem least_spec {F:Nat} {a b:Int}:zdQ F (a/18446744073709551616) (a % 18446744073709551616) (b/18446744073709551616) (b % 18446744073709551616)=some ((if b<a then b else a)/18446744073709551616,(if b<a then b else a) % 18446744073709551616):=by
  unfold zdQ zcq zcU zdP
  simp only [Bool.and_true,Bool.and_eq_true,beq_iff_eq,Bool.or_eq_true,decide_eq_true_eq]
  by_cases h:b<a
  · rw [if_neg (by omega),if_pos (by omega),if_pos h]
    rfl
  · by_cases he:b=a
    · rw [if_pos (by omega),if_neg h]
      rfl
    · rw [if_neg (by omega),if_neg (by omega),if_neg h]
      rfl
theorem greatest_spec {F:Nat} {a b:Int}:zcV F (a/18446744073709551616) (a % 18446744073709551616) (b/18446744073709551616) (b % 18446744073709551616)=some ((if a<b then b else a)/18446744073709551616,(if a<b then b else a) % 18446744073709551616):=by
  unfold zcV zcq zcd zc1
  simp only [Bool.and_true,Bool.and_eq_true,beq_iff_eq,Bool.or_eq_true,decide_eq_true_eq]
  by_cases h:b<a
  · rw [if_neg (by omega),if_pos (by omega),if_neg (by omega)]
    rfl
  · by_cases he:b=a
    · rw [if_pos (by omega),if_neg (by omega)]
      rfl
    · rw [if_neg (by omega),if_neg (by omega),if_pos (by omega)]
      rfl
end Go.Proofs.YtjaiebdcmjjnbaaGreat
