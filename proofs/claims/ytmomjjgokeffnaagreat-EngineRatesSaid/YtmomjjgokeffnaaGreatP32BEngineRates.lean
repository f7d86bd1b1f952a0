/- Steps that are kept: those ahead of which fewer others stand. -/
import Derived.Test.YtmomjjgokeffnaaGreatP32AEngineRates
import Derived.Test.YtmomjjgokeffnaaGreatPJEngineRates
import Derived.Test.YtmomjjgokeffnaaGreatP0LEngineRates
set_option linter.unusedVariables false
set_option linter.unusedSectionVars false
set_option linter.unusedSimpArgs false
namespace Go.Proofs.YtmomjjgokeffnaaGreat.F
open Go.VX
open Classical
section
variable (l:List KpD) (most:Bool)
end
end Go.Proofs.YtmomjjgokeffnaaGreat.F
