/- What the models of the package wide give: DivMod, Gcd. -/
import Derived.Test.YtjaiebdcmjjnbaaGreatWM4
set_option linter.unusedVariables false
set_option linter.unusedSimpArgs false
namespace Go.Proofs.YtjaiebdcmjjnbaaGreat
open Go Go.SL
section
variable {F:Nat} (hF:4300000000≤F)
include hF
def DM (z z' Q R:Int):Prop:=z=z'*Q+R∧((0≤R∧R<z')∨(z'<R∧R≤0))
omit hF in
theorem len_pos {l:List Int} {n:Nat} (h:Is l (n:Int)):(l.length:Int)>0↔0<n:=by
  have:=h.zero
  have h5:l.length>0↔l≠[]:=List.length_pos_iff
  rw [show ((l.length:Int)>0)↔(l.length>0) by omega,h5,ne_eq,← this]
  omega
omit hF in
theorem len_mono {a b:List Int} {m n:Nat} (ha:Is a (m:Int)) (hb:Is b (n:Int)) (h:n≤m):b.length≤a.length:=Is_len_le ha hb (by omega)
omit hF in
theorem is_pow2 {l:List Int} {n:Nat} (h:Is l (n:Int)):n<2^(32*l.length):=by
  have h1:=h.lt
  have:BP l.length=((2^(32*l.length):Nat):Int):=by
    have e:(4294967296:Int)=((2^32:Nat):Int):=by decide
    unfold BP
    rw [e,← Int.natCast_pow,← Nat.pow_mul]
  rw [this] at h1
  omega
end
end Go.Proofs.YtjaiebdcmjjnbaaGreat
