/- Loops that go up: until what is asked does not hold; lists made out of lists. -/
import Derived.Test.YtmomjjgokeffnaaGreatP0EngineRates
set_option linter.unusedVariables false
set_option linter.unusedSimpArgs false
namespace Go.Proofs.YtmomjjgokeffnaaGreat.F
open Go.VX
open Classical
end Go.Proofs.YtmomjjgokeffnaaGreat.F
