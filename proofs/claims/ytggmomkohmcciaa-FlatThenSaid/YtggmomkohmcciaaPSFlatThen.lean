/- Powers: the reference's, as the program's. -/
import Derived.Test.YtggmomkohmcciaaPRFlatThen
set_option linter.unusedVariables false
set_option linter.unusedSimpArgs false
namespace Go.Proofs.Ytggmomkohmcciaa.F
open Go.VX

def sq : Nat → Int → Int
  | 0, x => x
  | i + 1, x => tm (sq i x) (sq i x)
theorem sq_range (x : Int) (x0 : 0 ≤ x) (x1 : x ≤ 4294967296) : ∀ i, 0 ≤ sq i x ∧ sq i x ≤ 4294967296
  | 0 => ⟨x0, x1⟩
  | i + 1 => by
    have h := sq_range x x0 x1 i
    exact tm_range h.1 h.2 h.1 h.2
theorem powF_zero (f : Nat) (x r : Int) : powF f 0 x r = r := by
  cases f <;> simp [powF]
end Go.Proofs.Ytggmomkohmcciaa.F
