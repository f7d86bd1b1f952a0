/- The law FlatOf, in plain Lean: any schedule's pieces have just the span's steps, and at each the schedule's value; there are as many as there are curves that have steps. -/
import Derived.Test.YtggmomkohmcciaaGreatVx3
import Derived.Test.YtggmomkohmcciaaGreatP25RFlatOf
import Derived.Test.YtggmomkohmcciaaGreatP25XFlatOf
import Derived.Test.YtggmomkohmcciaaGreatP25WFlatOf
set_option linter.unusedVariables false
set_option linter.unusedSimpArgs false
namespace Go.Proofs.YtggmomkohmcciaaGreat.F
open Go.VX
open Classical
theorem pure_FlatOf (x : Ty.D (.tu T22 (.tu T24 (.tu T24 .unit)))) (h : Ty.wf (.tu T22 (.tu T24 (.tu T24 .unit))) x) : regimenlaw25_FlatOf x = some true := by
  obtain ⟨l, ⟨f, t, _⟩, ⟨step, ep, _⟩, _⟩ := x
  change List NodD at l
  change Int at f
  change Int at t
  change Int at step
  change Int at ep
  unfold regimenlaw25_FlatOf
  dsimp only
  rw [awake25]
  by_cases hl : (l.length : Int) > 70
  · rw [decide_eq_true hl]; rfl
  rw [decide_eq_false hl, cnd_f, r_flatmay l ep (by omega)]
  by_cases hF : FlatOk l ep
  rotate_left
  · rw [p_Of_no l f t ep (by omega) (fun h => hF h.1), decide_eq_false hF]; rfl
  rw [decide_eq_true hF]
  by_cases h1 : f < 0
  · rw [p_Of_no l f t ep (by omega) (fun h => by omega), decide_eq_true h1]; rfl
  rw [decide_eq_false h1]
  by_cases h2 : f ≥ t
  · rw [p_Of_no l f t ep (by omega) (fun h => by omega), decide_eq_true h2]; rfl
  rw [decide_eq_false h2]
  by_cases h3 : t > 1000000
  · rw [p_Of_no l f t ep (by omega) (fun h => by omega), decide_eq_true h3]; rfl
  rw [decide_eq_false h3]
  have h0 := walk_pos _ _ _ hF.1.1.1
  have hw := whole_at l hF.1.1.1 0 h0
  have hd := hF.1.2.2
  have hll := hF.1.1.2
  obtain ⟨P, e, g⟩ := p_Of l f t ep hF (by omega) (by omega) (by omega)
  have hP := good_len l ep 0 f t P g (by omega) (by omega) (by omega)
  have hS := chain_segs P f t _ g.1
  have hE := hS.2 hP.1
  have hat := chain_at P f t _ g.1 hP.2 hP.1 step
  rw [List.drop_zero] at hat
  have hm := r_segs P (by omega)
  have hpc := r_Pc l ep (by omega) hF.2.1 hF.2.2.1 hF.2.2.2 0 (t - f) h0 hw (by omega) (by omega)
  have hg2 := g.2
  rw [List.drop_zero] at hpc hg2
  rw [← hg2] at hpc
  rw [e, wr_id (x := t - f) (by omega) (by omega)]
  simp only [bnd_mk, Bool.not_true, Bool.not_false, cnd_t, cnd_f, decide_true]
  rw [hm, decide_eq_true ⟨hS.1, hP.1⟩]
  simp only [bnd_mk, Bool.not_true, Bool.not_false, cnd_t, cnd_f, decide_true]
  rw [ati_0 zSeg hP.1]
  simp only [bnd_mk]
  rw [hE.1]
  simp only [bnd_mk, Bool.not_true, Bool.not_false, cnd_t, cnd_f, decide_true]
  rw [wr_id (x := (P.length : Int) - 1) (by omega) (by omega), show (P.length : Int) - 1 = ((P.length - 1 : Nat) : Int) by omega, ati_d zSeg (by omega)]
  simp only [bnd_mk]
  rw [hE.2]
  simp only [bnd_mk, Bool.not_true, Bool.not_false, cnd_t, cnd_f, decide_true]
  rw [show regimenref25_Pieces (l, 0, t - f, ep, ()) = _ from hpc]
  simp only [bnd_mk, Bool.not_true, Bool.not_false, cnd_t, cnd_f, decide_true]
  by_cases k1 : step < f
  · rw [hat.2 (by omega), decide_eq_true k1]; rfl
  rw [decide_eq_false k1]
  by_cases k2 : step ≥ t
  · rw [hat.2 (by omega), decide_eq_true k2]; rfl
  rw [decide_eq_false k2]
  have e1 := r_At25 l ep (by omega) hF.2.1 hF.2.2.1 hF.2.2.2 0 (step - f) (t - f) h0 hw (by omega) (by omega) (by rw [List.drop_zero]; omega)
  rw [List.drop_zero] at e1
  rw [(hat.1 (by omega) (by omega)).1, wr_id (x := step - f) (by omega) (by omega)]
  simp only [bnd_mk, Bool.not_true, Bool.not_false, cnd_t, cnd_f, decide_true]
  rw [show regimenref25_At (l, 0, step - f, t - f, ep, ()) = _ from e1]
  simp only [bnd_mk, Bool.not_true, Bool.not_false, cnd_t, cnd_f, decide_true]
end Go.Proofs.YtggmomkohmcciaaGreat.F
