/- The reference's rounded quotient and product, as numbers. -/
import Derived.Test.YtggmomkohmcciaaPDFlatThen
set_option linter.unusedVariables false
set_option linter.unusedSimpArgs false
namespace Go.Proofs.Ytggmomkohmcciaa.F
open Go.VX

end Go.Proofs.Ytggmomkohmcciaa.F
