/- Plans of one group whose rates are constants: examples. -/
import Derived.Test.YtmomjjgokeffnaaGreatPXEngineRates
set_option linter.unusedVariables false
set_option linter.unusedSimpArgs false
namespace Go.Proofs.YtmomjjgokeffnaaGreat.F
open Go.VX
open Classical
end Go.Proofs.YtmomjjgokeffnaaGreat.F
