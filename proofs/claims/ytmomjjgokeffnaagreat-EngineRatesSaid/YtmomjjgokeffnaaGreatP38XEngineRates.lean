/- The pieces of a step: sums of weights, what is kept, readings, and events that are told. -/
import Derived.Test.YtmomjjgokeffnaaGreatP38WEngineRates
set_option linter.unusedVariables false
set_option linter.unusedSectionVars false
set_option linter.unusedSimpArgs false
namespace Go.Proofs.YtmomjjgokeffnaaGreat.F
open Go.VX
open Classical
end Go.Proofs.YtmomjjgokeffnaaGreat.F
