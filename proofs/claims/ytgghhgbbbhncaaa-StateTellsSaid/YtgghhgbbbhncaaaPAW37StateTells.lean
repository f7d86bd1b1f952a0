/- The plain example of the laws of states. -/
import Derived.Test.YtgghhgbbbhncaaaPZStateTells
set_option linter.unusedVariables false
set_option linter.unusedSimpArgs false
namespace Go.Proofs.Ytgghhgbbbhncaaa.F
open Go.VX
open Classical
theorem awake37 : regimenlaw37_awake () = some true := by
  have e1 : plan_Check ((4, 0, 0, 1, 0, [(0, 4, ())], [[false]], [(0, 0, [(0, 4, 0, 4, (1, 0, 0, 0, ()), 0, 0, ())], ()), (0, 1, [(0, 4, 0, 4, (1, 0, 0, 0, ()), 0, 0, ())], ()), (0, 2, [(0, 4, 0, 4, (1, 0, 0, 0, ()), 0, 0, ())], ())], (false, [], false, 0, 0, false, ()), (false, [], false, 0, 0, 0, 0, 0, ()), (false, [], false, 0, ()), (false, 0, ()), (-1), (-1), (-1), 0, 0, ()), ()) = some 0 :=
    exCheck 4 0 0 0 (false, [], false, 0, ()) (-1) (by omega) (by omega) (by omega) (by omega) (by omega) (by omega) (by omega) (by omega) (keep_none _ _)
  unfold regimenlaw37_awake state_Check
  dsimp only
  rw [e1]
  rfl
end Go.Proofs.Ytgghhgbbbhncaaa.F
