/- The law StateTells, in plain Lean: how many steps were taken in, how many steps of Swa there are, and whether states are the same. -/
import Derived.Test.YtgghhgbbbhncaaaVx3
import Derived.Test.YtgghhgbbbhncaaaPAW37StateTells
import Derived.Test.YtgghhgbbbhncaaaP37AStateTells
set_option linter.unusedVariables false
set_option linter.unusedSimpArgs false
namespace Go.Proofs.Ytgghhgbbbhncaaa.F
open Go.VX
open Classical
theorem light37 (s : StateD) : ∃ q, regimenlaw37_Light (s, ()) = some q ∧ (q = true → s.2.2.2.2.2.1.length ≤ 30 ∧ s.2.2.2.2.2.2.1.length ≤ 30 ∧ s.2.2.2.2.2.2.2.1.2.1.length ≤ 30) := by
  unfold regimenlaw37_Light
  dsimp only
  simp only [bnd_mk, cnd_some_and]
  refine ⟨_, rfl, fun h => ?_⟩
  simp only [Bool.and_eq_true, decide_eq_true_eq] at h
  omega
theorem taken_some (s : StateD) : ∃ v, state_Taken (s, ()) = some v := by
  unfold state_Taken
  dsimp only
  cases decide (s.2.1 = 3)
  · exact ⟨_, rfl⟩
  · exact ⟨_, rfl⟩
theorem pure_StateTells (x : Ty.D (.tu T63 (.tu T63 (.tu T64 .unit)))) (h : Ty.wf (.tu T63 (.tu T63 (.tu T64 .unit))) x) : regimenlaw37_StateTells x = some true := by
  obtain ⟨X, Y, ⟨n, f, e, _⟩, _⟩ := x
  change StateD at X
  change StateD at Y
  change Int at n
  change Int at f
  change Int at e
  clear h
  unfold regimenlaw37_StateTells
  dsimp only
  rw [awake37]
  obtain ⟨q1, e1, l1⟩ := light37 X
  obtain ⟨q2, e2, l2⟩ := light37 Y
  rw [e1, e2]
  cases q1 with
  | false => rfl
  | true =>
  cases q2 with
  | false => rfl
  | true =>
  simp only [bnd_mk, Bool.not_true, Bool.not_false, cnd_t, cnd_f]
  by_cases k1 : X.1 = -9223372036854775808
  · rw [decide_eq_true k1]; rfl
  rw [decide_eq_false k1]
  by_cases k2 : n > 5000
  · rw [decide_eq_true k2]; rfl
  rw [decide_eq_false k2]
  by_cases k3 : f > 1099511627776
  · rw [decide_eq_true k3]; rfl
  rw [decide_eq_false k3]
  by_cases k4 : f < -1099511627776
  · rw [decide_eq_true k4]; rfl
  rw [decide_eq_false k4]
  by_cases k5 : e > 1099511627776
  · rw [decide_eq_true k5]; rfl
  rw [decide_eq_false k5]
  by_cases k6 : e < -1099511627776
  · rw [decide_eq_true k6]; rfl
  rw [decide_eq_false k6]
  simp only [bnd_mk, Bool.not_true, Bool.not_false, cnd_t, cnd_f]
  obtain ⟨v, ev⟩ := taken_some X
  obtain ⟨b, eb, _⟩ := p_same X Y (by have := l1 rfl; omega) (by have := l1 rfl; omega) (by have := l1 rfl; omega)
  rw [p_sums _ f e n rfl rfl (by omega) (by omega) (by omega), r_same, eb, show regimenref37_Taken (X, ()) = state_Taken (X, ()) from rfl, ev]
  by_cases hf : f ≥ 0
  · rw [decide_eq_true hf, cnd_t, r_sums _ f e n rfl rfl hf (by omega) (by omega) (by omega), if_neg (by omega)]
    simp only [bnd_mk, decide_true, cnd_t]
  · rw [decide_eq_false hf, cnd_f, if_pos (by omega)]
    simp only [bnd_mk, decide_true, cnd_t]
end Go.Proofs.Ytgghhgbbbhncaaa.F
