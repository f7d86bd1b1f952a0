/- The law CurveWithin, in plain Lean: a curve's value is within its bounds; the first one is A, the last one of a line, a polynomial, a wave is B. -/
import Derived.Test.YtgghhgbbbhncaaaPAW09CurveWithin
set_option linter.unusedVariables false
set_option linter.unusedSimpArgs false
namespace Go.Proofs.Ytgghhgbbbhncaaa.F
open Go.VX
open Classical
theorem pure_CurveWithin (x : Ty.D (.tu T23 T27)) (h : Ty.wf (.tu T23 T27) x) : regimenlaw09_CurveWithin x = some true := by
  obtain ⟨c, i, n, _⟩ := x
  change CurveD at c
  change Int at i
  change Int at n
  have ea : bnd (regimenlaw09_awake ()) (fun r3 => some r3) = some true := by rw [awake09]; rfl
  unfold regimenlaw09_CurveWithin
  dsimp only
  rw [ea, r_curve, bnd_mk]
  by_cases hc : CurveOk c
  · rw [decide_eq_true hc]
    by_cases h1 : n < 1
    · rw [decide_eq_true h1]; rfl
    by_cases h2 : n > 1048576
    · rw [decide_eq_false h1, decide_eq_true h2]; rfl
    by_cases h3 : i < 0
    · rw [decide_eq_false h1, decide_eq_false h2, decide_eq_true h3]; rfl
    by_cases h4 : i ≥ n
    · rw [decide_eq_false h1, decide_eq_false h2, decide_eq_false h3, decide_eq_true h4]; rfl
    rw [decide_eq_false h1, decide_eq_false h2, decide_eq_false h3, decide_eq_false h4, wr_id (x := n - 1) (by omega) (by omega), p_atS c i n hc (by omega) (by omega) (by omega) (by omega), p_bounds, if_pos hc, p_atS c 0 n hc (by omega) (by omega) (by omega) (by omega), p_atS c (n - 1) n hc (by omega) (by omega) (by omega) (by omega)]
    have hin := curveS_in c i n hc (by omega) (by omega) (by omega)
    have hf := curve_first c n hc (by omega)
    simp only [bnd_mk, cnd_t, cnd_f, Bool.not_true, Bool.not_false, decide_true]
    rw [decide_eq_false (by omega : ¬ CurveS c i n < (BoundsS c).1), decide_eq_false (by omega : ¬ CurveS c i n > (BoundsS c).2.1), decide_eq_true hf]
    by_cases k1 : n = 1
    · rw [decide_eq_true k1]; rfl
    by_cases k2 : c.1 = 1
    · rw [decide_eq_false k1, decide_eq_true k2]; rfl
    by_cases k3 : c.1 = 4
    · rw [decide_eq_false k1, decide_eq_false k2, decide_eq_true k3]; rfl
    rw [decide_eq_false k1, decide_eq_false k2, decide_eq_false k3, decide_eq_true (curve_last c n hc (by omega) k2 k3)]; rfl
  · rw [decide_eq_false hc]; rfl
end Go.Proofs.Ytgghhgbbbhncaaa.F
