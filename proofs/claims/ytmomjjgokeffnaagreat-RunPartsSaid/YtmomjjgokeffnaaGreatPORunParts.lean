/- Curves: which ones there may be. -/
import Derived.Test.YtmomjjgokeffnaaGreatP0RunParts
import Derived.Test.YtmomjjgokeffnaaGreatFRunParts
set_option linter.unusedVariables false
set_option linter.unusedSimpArgs false
namespace Go.Proofs.YtmomjjgokeffnaaGreat.F
open Go.VX
open Classical
abbrev CurveD:=Int×Int×Int×Int×Unit
def CurveOk(c:CurveD):Prop:=0<=c.2.1/\c.2.1<=4503599627370496/\0<=c.2.2.1/\c.2.2.1<=4503599627370496/\((c.1=1/\c.2.2.1=0/\c.2.2.2.1=0)\/((c.1=2\/c.1=5)/\c.2.2.2.1=0)\/(c.1=3/\1<=c.2.2.2.1/\c.2.2.2.1<=16)\/(c.1=4/\c.2.2.1<=c.2.1/\0<=c.2.2.2.1/\c.2.2.2.1<=4294967296))
theorem p_curve(c:CurveD):curve_Check (c,())=some (if CurveOk c then 0 else 1):=by
 obtain⟨a,b,d,e,_⟩:=c
 unfold curve_Check curve_bent curve_within CurveOk
 simp only[bnd_mk,cnd_if,ite_some]
 congr 1
 apply if_swap
 by_cases h1:a=1
 ·subst h1;simp;omega
 by_cases h2:a=2
 ·subst h2;simp;omega
 by_cases h3:a=3
 ·subst h3;simp;omega
 by_cases h4:a=4
 ·subst h4;simp;omega
 by_cases h5:a=5
 ·subst h5;simp;omega
 simp [h1,h2,h3,h4,h5]
end Go.Proofs.YtmomjjgokeffnaaGreat.F
