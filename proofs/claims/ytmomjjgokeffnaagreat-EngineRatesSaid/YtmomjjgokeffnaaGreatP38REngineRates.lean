/- The whole step: the program's and the reference's. -/
import Derived.Test.YtmomjjgokeffnaaGreatP38ZEngineRates
set_option linter.unusedVariables false
set_option linter.unusedSectionVars false
set_option linter.unusedSimpArgs false
namespace Go.Proofs.YtmomjjgokeffnaaGreat.F
open Go.VX
open Classical
structure StepH (p:PlanD) (s:StateD) (x:InD):Prop where
 hp:PlanOkD p
 hs:StateOkD p s
 hg:s.2.1=0
 hx:InOk p x
 hi:InE s x
section
variable {p:PlanD} {s:StateD} {x:InD} (H:StepH p s x)
include H
omit H in
end
end Go.Proofs.YtmomjjgokeffnaaGreat.F
