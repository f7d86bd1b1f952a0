/- Shares, what lies between, powers: the reference's, as the program's. -/
import Derived.Test.YtggmomkohmcciaaPQFlatThen
import Derived.Test.YtggmomkohmcciaaPEFlatThen
set_option linter.unusedVariables false
set_option linter.unusedSimpArgs false
namespace Go.Proofs.Ytggmomkohmcciaa.F
open Go.VX

end Go.Proofs.Ytggmomkohmcciaa.F
