/- The plain example of the laws of pieces. -/
import Derived.Test.YtgghhgbbbhncaaaPYSegsBounds
set_option linter.unusedVariables false
set_option linter.unusedSimpArgs false
namespace Go.Proofs.Ytgghhgbbbhncaaa.F
open Go.VX
open Classical
theorem segs_one {s : SegD} (h : SegOk s) : SegsOk [s] := by
  intro i hi
  have : i = 0 := by simp at hi; exact hi
  subst this
  exact ⟨h, fun h => by omega⟩
theorem awake24 : regimenlaw24_awake () = some true := by
  have hs : SegOk (2, 5, 2, 3, (2, 0, 4294967296, 0, ()), 0, 0, ()) := by unfold SegOk CurveOk; dsimp only; omega
  have hl := segs_one hs
  have e1 : segs_At ([(2, 5, 2, 3, (2, 0, 4294967296, 0, ()), 0, 0, ())], 3, ()) = some (2147483648, 0, ()) := by
    rcases p_segat _ 3 hl (by simp) (by simp) with ⟨i, v, h1, h2, _, _, h3, _⟩ | ⟨h1, _⟩
    · have hi : i = 0 := by have := h1.1; simp at this; exact this
      subst hi
      have hv : regimenref24_Value ((2, 5, 2, 3, (2, 0, 4294967296, 0, ()), 0, 0, ()), 3, ()) = some 2147483648 := by
        unfold regimenref24_Value
        dsimp only
        rw [wr_id (x := 3 - 2) (by omega) (by omega), r_atS _ _ _ (by unfold CurveOk; dsimp only; omega) (by omega) (by omega) (by omega) (by omega)]
        rfl
      have : some v = some 2147483648 := h3.symm.trans hv
      rw [h2, Option.some.inj this]
    · exact (h1 0 ⟨by simp, by decide, by decide⟩).elim
  have e2 : segs_At ([(2, 5, 2, 3, (2, 0, 4294967296, 0, ()), 0, 0, ())], 5, ()) = some (0, 8, ()) := by
    rcases p_segat _ 5 hl (by simp) (by simp) with ⟨i, v, h1, h2, _, _, h3, _⟩ | ⟨h1, h2, _⟩
    · have hi : i = 0 := by have := h1.1; simp at this; exact this
      subst hi
      exact absurd h1.2.2 (by decide)
    · exact h2
  have e3 : segs_find ([(2, 5, 2, 3, (2, 0, 4294967296, 0, ()), 0, 0, ())], 4, ()) = some 0 := by
    rcases p_segat _ 4 hl (by simp) (by simp) with ⟨i, v, h1, h2, h3, _⟩ | ⟨h1, _⟩
    · have hi : i = 0 := by have := h1.1; simp at this; exact this
      subst hi
      exact h3
    · exact (h1 0 ⟨by simp, by decide, by decide⟩).elim
  unfold regimenlaw24_awake segs_Find
  dsimp only
  rw [e1, e2, e3, p_segs _ (by simp), if_pos ⟨hl, by simp⟩]
  rfl
end Go.Proofs.Ytgghhgbbbhncaaa.F
