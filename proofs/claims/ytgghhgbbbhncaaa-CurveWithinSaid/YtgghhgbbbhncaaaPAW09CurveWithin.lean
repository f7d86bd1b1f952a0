/- The plain example of the laws of curves. -/
import Derived.Test.YtgghhgbbbhncaaaPVCurveWithin
set_option linter.unusedVariables false
set_option linter.unusedSimpArgs false
namespace Go.Proofs.Ytgghhgbbbhncaaa.F
open Go.VX
open Classical
theorem awake09 : regimenlaw09_awake () = some true := by
  unfold regimenlaw09_awake
  rw [p_at2 (2, 0, 4294967296, 0, ()) 1 3 (by unfold CurveOk; dsimp only; omega) (by omega) (by omega) (by omega) (by omega) rfl, p_at4 (4, 4294967296, 0, 2147483648, ()) 2 9 (by unfold CurveOk; dsimp only; omega) (by omega) (by omega) (by omega) (by omega) rfl]
  rfl
end Go.Proofs.Ytgghhgbbbhncaaa.F
