/- The law SegsAt, in plain Lean: which pieces there may be, which one has any step, and its value. -/
import Derived.Test.YtgghhgbbbhncaaaPAW24SegsAt
set_option linter.unusedVariables false
set_option linter.unusedSimpArgs false
namespace Go.Proofs.Ytgghhgbbbhncaaa.F
open Go.VX
open Classical
theorem pure_SegsAt (x : Ty.D (.tu T45 (.tu (.int .i64) .unit))) (h : Ty.wf (.tu T45 (.tu (.int .i64) .unit)) x) : regimenlaw24_SegsAt x = some true := by
  obtain ⟨l, step, _⟩ := x
  change List SegD at l
  change Int at step
  unfold regimenlaw24_SegsAt
  dsimp only
  rw [awake24]
  by_cases hl : (l.length : Int) > 60
  · rw [decide_eq_true hl]; rfl
  rw [decide_eq_false hl, cnd_f, r_segs l (by omega), p_segs l (by omega)]
  by_cases hm : SegsOk l ∧ 0 < l.length
  · rw [if_pos hm, decide_eq_true hm]
    have hF : segs_Find (l, step, ()) = segs_find (l, step, ()) := by
      unfold segs_Find
      dsimp only
      rw [p_segs l (by omega), if_pos hm, bnd_mk, decide_eq_true rfl, Bool.not_true, cnd_f]
      exact bnd_eta _
    rcases p_segat l step hm.1 hm.2 (by omega) with ⟨i, v, h1, h2, h3, h4, h5, _⟩ | ⟨h1, h2, h3, h4⟩
    · rw [hF, h2, h3, h4]
      simp only [bnd_mk, decide_true, Bool.not_true, Bool.not_false, cnd_t, cnd_f, Bool.true_eq, Bool.false_eq_true, decide_false, show ((0 : Int) = 1) = False by simp]
      rw [decide_eq_false (by omega : ¬ (i : Int) < 0), cnd_f, ati_d zSeg h1.1, bnd_mk, h5, bnd_mk, decide_eq_true rfl]
      rfl
    · rw [hF, h2, h3, h4]
      rfl
  · rw [if_neg hm, decide_eq_false hm]
    have h1 : segs_At (l, step, ()) = some (0, 1, ()) := by
      unfold segs_At
      dsimp only
      rw [p_segs l (by omega), if_neg hm]
      rfl
    have h2 : segs_Find (l, step, ()) = some (-1) := by
      unfold segs_Find
      dsimp only
      rw [p_segs l (by omega), if_neg hm]
      rfl
    rw [h1, h2]
    rfl
end Go.Proofs.Ytgghhgbbbhncaaa.F
