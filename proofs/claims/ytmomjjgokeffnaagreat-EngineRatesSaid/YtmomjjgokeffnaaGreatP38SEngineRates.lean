/- A step of a run, by definition: what is told, and the state behind it; that state may be. -/
import Derived.Test.YtmomjjgokeffnaaGreatP37EEngineRates
import Derived.Test.YtmomjjgokeffnaaGreatP32BEngineRates
import Derived.Test.YtmomjjgokeffnaaGreatPNEngineRates
set_option linter.unusedVariables false
set_option linter.unusedSectionVars false
set_option linter.unusedSimpArgs false
namespace Go.Proofs.YtmomjjgokeffnaaGreat.F
open Go.VX
open Classical
abbrev RdD:=Bool×Int×Unit
abbrev InD:=List RdD×List Int×Unit
def phN:List SpanD->Int->Nat
 | [],_=>0
 | t::r,step=>if step<t.2.1 then 0 else phN r step+1
section
variable (p:PlanD) (s:StateD) (x:InD)
end
theorem nth_take{α:Type} (z:α) (l:List α) (n i:Nat) (h:i<n):nth z (l.take n) i=nth z l i:=by
 simp [nth,List.getD,List.getElem?_take,h]
end Go.Proofs.YtmomjjgokeffnaaGreat.F
