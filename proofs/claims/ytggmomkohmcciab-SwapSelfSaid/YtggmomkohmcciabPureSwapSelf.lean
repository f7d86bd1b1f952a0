/- The law SwapSelf, in plain Lean: a state that goes is itself, swapped for its own plan. -/
import Derived.Test.YtggmomkohmcciabVx4
import Derived.Test.YtggmomkohmcciabP60SSwapSelf
import Derived.Test.YtggmomkohmcciabC60
set_option linter.unusedVariables false
set_option linter.unusedSimpArgs false
namespace Go.Proofs.Ytggmomkohmcciab.F
open Go.VX
open Classical
theorem pure_SwapSelf (x : Ty.D (.tu T34 (.tu T44 .unit))) (h : Ty.wf (.tu T34 (.tu T44 .unit)) x) : regimenlaw60_SwapSelf x = some true := by
  obtain ⟨p, s, _⟩ := x
  obtain ⟨hp, hs, _⟩ := h
  change PlanD at p
  change StateD at s
  have wp : WfP p := by
    obtain ⟨a0, a1, a2, a3, a4, sp, fz, tr, st, cu, ke, em, o1, o2, o3, sf, se, _⟩ := p
    obtain ⟨_, _, _, _, _, hsp, hfz, htr, _⟩ := hp
    exact ⟨hsp.1, hfz.1, htr.1, fun t ht => (htr.2 t ht).2.2.1.1⟩
  have hin : InS s := by
    obtain ⟨n1, n2, n3, ⟨b1, b2, b3, _⟩, ⟨⟨c1, c2, c3, _⟩, c4, c5, _⟩, kk, em, ⟨n4, su, _⟩, _⟩ := s
    obtain ⟨i1, i2, i3, _, _, ik, ie, ⟨i12, is, _⟩, _⟩ := hs
    exact ⟨i1, ik.1, ie.1, is.1, fun x hx => (ik.2 x hx).2.1⟩
  unfold regimenlaw60_SwapSelf
  dsimp only
  obtain ⟨q1, e1⟩ := lightD p
  rw [aw_regimenlaw60_awake, e1, light37, r_mayD p wp]
  cases q1 with
  | false => rfl
  | true =>
  by_cases hl : s.2.2.2.2.2.1.length ≤ 30 ∧ s.2.2.2.2.2.2.1.length ≤ 30 ∧ s.2.2.2.2.2.2.2.1.2.1.length ≤ 30
  rotate_left
  · rw [decide_eq_false hl]; rfl
  rw [decide_eq_true hl]
  by_cases k1 : p.1 > 2000
  · rw [decide_eq_true k1]; rfl
  rw [decide_eq_false k1]
  by_cases hP : PlanOkD p
  rotate_left
  · rw [decide_eq_false hP]; rfl
  rw [decide_eq_true hP, r_stateD p s hP hin]
  by_cases hS : StateOkD p s
  rotate_left
  · rw [decide_eq_false hS]; rfl
  rw [decide_eq_true hS]
  by_cases h0 : s.2.1 = 0
  rotate_left
  · rw [decide_eq_false h0]; rfl
  rw [decide_eq_true h0]
  obtain ⟨ke, a1, a2, a3, a4⟩ := p_SwapTo p p s wp wp hin hl.1
  have ht := turn_self p s hP hS h0 ke (fun k => a3 ⟨k, hP⟩)
  rw [ht, if_pos ⟨hP, hP, hS⟩, if_pos h0, if_pos hS] at a4
  rw [a4]
  simp only [bnd_mk, Bool.not_true, Bool.not_false, cnd_t, cnd_f, decide_true]
  rw [r_sameD s s hin, decide_eq_true rfl]
  rfl
end Go.Proofs.Ytggmomkohmcciab.F
