/- The turn: looks, weights, and the whole step: the program's and the reference's. -/
import Derived.Test.YtmomjjgokeffnaaGreatP38YEngineRates
set_option linter.unusedVariables false
set_option linter.unusedSectionVars false
set_option linter.unusedSimpArgs false
namespace Go.Proofs.YtmomjjgokeffnaaGreat.F
open Go.VX
open Classical
end Go.Proofs.YtmomjjgokeffnaaGreat.F
