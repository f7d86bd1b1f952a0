/- The example of layer 38: the first step of a run of two steps begins its phase and cuts nothing; the second one fails. -/
import Derived.Test.YtmomjjgokeffnaaGreatP38ORunParts
set_option linter.unusedVariables false
set_option linter.unusedSectionVars false
set_option linter.unusedSimpArgs false
namespace Go.Proofs.YtmomjjgokeffnaaGreat.F
open Go.VX
open Classical
end Go.Proofs.YtmomjjgokeffnaaGreat.F
