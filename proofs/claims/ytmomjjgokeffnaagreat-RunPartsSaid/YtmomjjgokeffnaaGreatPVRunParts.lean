/- Curves: which ones may not be asked, bounds, words, the first and the last value. -/
import Derived.Test.YtmomjjgokeffnaaGreatPURunParts
set_option linter.unusedVariables false
set_option linter.unusedSimpArgs false
namespace Go.Proofs.YtmomjjgokeffnaaGreat.F
open Go.VX
open Classical
def BoundsS(c:CurveD):Int×Int×Unit:=if c.1=1\/c.2.1=c.2.2.1 then(c.2.1,c.2.1,()) else if c.2.1<c.2.2.1 then(c.2.1,c.2.2.1,()) else(c.2.2.1,c.2.1,())
theorem lerp_in(a b t:Int) (t0:0<=t) (t1:t<=4294967296):(a<=b->a<=LerpS a b t/\LerpS a b t<=b)/\(b<=a->b<=LerpS a b t/\LerpS a b t<=a):=by
 unfold LerpS
 by_cases h:a<=b
 ·rw[if_pos h]
  have h1:=rd_nonneg (d:=4294967296) (by omega) (Int.mul_nonneg (by omega:0<=b-a) t0)
  have h2:=rd_bound (x:=b-a) (d:=4294967296) (by omega) (Int.mul_le_mul_of_nonneg_left t1 (by omega:0<=b-a))
  omega
 ·rw[if_neg h]
  have h1:=rd_nonneg (d:=4294967296) (by omega) (Int.mul_nonneg (by omega:0<=a-b) t0)
  have h2:=rd_bound (x:=a-b) (d:=4294967296) (by omega) (Int.mul_le_mul_of_nonneg_left t1 (by omega:0<=a-b))
  omega
theorem tm_le{a p:Int} (a0:0<=a) (p0:0<=p) (p1:p<=4294967296):0<=tm a p/\tm a p<=a :=
 ⟨rd_nonneg (by omega) (Int.mul_nonneg a0 p0),rd_bound (by omega) (Int.mul_le_mul_of_nonneg_left p1 a0)⟩
theorem curveS_in(c:CurveD) (i n:Int) (hc:CurveOk c) (n0:1<=n) (i0:0<=i) (i1:i<n):(BoundsS c).1<=CurveS c i n/\CurveS c i n<=(BoundsS c).2.1:=by
 have hc':=hc
 unfold CurveOk at hc'
 have ht:=shareS_range i n n0 i0 i1
 have key:(c.1=1/\CurveS c i n=c.2.1)\/(c.2.1<=c.2.2.1->c.2.1<=CurveS c i n/\CurveS c i n<=c.2.2.1)/\(c.2.2.1<=c.2.1->c.2.2.1<=CurveS c i n/\CurveS c i n<=c.2.1):=by
  unfold CurveS
  by_cases h2:c.1=2
  ·rw[if_pos h2];exact .inr (lerp_in _ _ _ ht.1 ht.2)
  by_cases h3:c.1=3
  ·rw[if_neg h2,if_pos h3]
   have hw:=powS_mono c.2.2.2.1 (x:=4294967296-ShareS i n) (by omega) (Int.le_refl _) (by omega)
   exact .inr (lerp_in _ _ _ hw.1 hw.2.2).symm
  by_cases h4:c.1=4
  ·rw[if_neg h2,if_neg h3,if_pos h4]
   have hw:=powS_mono i (x:=c.2.2.2.1) (by omega) (Int.le_refl _) (by omega)
   have hm:=tm_le (a:=c.2.1) (by omega) hw.1 hw.2.2
   right
   split<;>omega
  by_cases h5:c.1=5
  ·rw[if_neg h2,if_neg h3,if_neg h4,if_pos h5]
   have hw:=waveS_b (ShareS i n) ht.1 ht.2
   exact .inr (lerp_in _ _ _ hw.1 hw.2).symm
  ·rw[if_neg h2,if_neg h3,if_neg h4,if_neg h5];exact .inl ⟨by omega,rfl⟩
 unfold BoundsS
 by_cases h1:c.1=1\/c.2.1=c.2.2.1
 ·rw[if_pos h1]
  dsimp only
  rcases key with⟨_,k⟩ | k
  ·omega
  ·rcases h1 with h1 | h1
   ·have k2:=k.2 (by omega)
    unfold CurveS at k2 ⊢
    rw[if_neg (by omega),if_neg (by omega),if_neg (by omega),if_neg (by omega)]
    omega
   ·have k1:=k.1 (by omega)
    omega
 ·rw[if_neg h1]
  rcases key with⟨k,_⟩ | k
  ·omega
  ·by_cases h2:c.2.1<c.2.2.1
   ·rw[if_pos h2]
    exact k.1 (by omega)
   ·rw[if_neg h2]
    exact k.2 (by omega)
end Go.Proofs.YtmomjjgokeffnaaGreat.F
