/- The run of a turn. -/
import Derived.Test.YtmomjjgokeffnaaGreatP38REngineRates
set_option linter.unusedVariables false
set_option linter.unusedSectionVars false
set_option linter.unusedSimpArgs false
namespace Go.Proofs.YtmomjjgokeffnaaGreat.F
open Go.VX
open Classical
section
variable {p:PlanD} {s:StateD} {x:InD} (H:StepH p s x)
include H
end
end Go.Proofs.YtmomjjgokeffnaaGreat.F
