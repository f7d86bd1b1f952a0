/- The law DiffStep, in plain Lean: the first step at which the values of any two plans differ. -/
import Derived.Test.YtggmomkohmcciabGreatVx3
import Derived.Test.YtggmomkohmcciabGreatP51DiffStep
import Derived.Test.YtggmomkohmcciabGreatC51
set_option linter.unusedVariables false
set_option linter.unusedSimpArgs false
namespace Go.Proofs.YtggmomkohmcciabGreat.F
open Go.VX
open Classical
theorem p_step (p q : PlanD) (wp : WfP p) (wq : WfP q) (a b : Int) (hp : PlanOkD p) (hq : PlanOkD q) (a0 : 0 ≤ a) (ab : a ≤ b) (b1 : b ≤ p.1) (b2 : b ≤ q.1) (h5 : p.1 ≤ 500) :
    (∃ i, a ≤ i ∧ i < b ∧ ¬ rowS p i = rowS q i ∧ (∀ j, a ≤ j → j < i → rowS p j = rowS q j) ∧ diff_Step (p, q, a, b, ()) = some (i, true, 0, ())) ∨ ((∀ j, a ≤ j → j < b → rowS p j = rowS q j) ∧ diff_Step (p, q, a, b, ()) = some (0, false, 0, ())) := by
  unfold diff_Step
  dsimp only
  rw [p_planD p wp, p_planD q wq, if_pos hp, if_pos hq, decide_eq_false (by omega : ¬ a < 0), decide_eq_false (by omega : ¬ a > b), wr_id (x := b - a) (by omega) (by omega), decide_eq_false (by omega : ¬ b - a > 10000), decide_eq_false (by simp only [minL]; split <;> omega : ¬ b > minL p.1 [q.1])]
  simp only [bnd_mk, decide_true, Bool.not_true, Bool.not_false, cnd_t, cnd_f]
  have step : ∀ i, a ≤ i → i < b → (cnd (decide (i < b)) (bnd (plan_Row (p, i, ())) fun r10 => bnd (plan_Row (q, i, ())) fun r11 => bnd (slices_Equal_int_int (r10.1, r11.1, ())) fun r12 => cnd (!r12) (inrE (inrE (some (i, true, (0 : Int), ())))) (inlE (wr .i64 (i + 1), ()))) (inrE (inlE (()))) : Option ((Int × Unit) ⊕ (Unit ⊕ (Int × Bool × Int × Unit)))) = cnd (!decide (rowS p i = rowS q i)) (inrE (inrE (some (i, true, (0 : Int), ())))) (inlE (i + 1, ())) := fun i i0 i1 => by
    have hl := rowS_len p hp i
    rw [decide_eq_true i1, cnd_t, p_Row p wp hp i (by omega) (by omega), bnd_mk, p_Row q wq hq i (by omega) (by omega), bnd_mk]
    dsimp only
    rw [equal_ID (rowS p i) (rowS q i) (by omega), bnd_mk, wr_id (x := i + 1) (by omega) (by omega)]
  rcases first_or (fun i => rowS p i = rowS q i) a b with ⟨i, a1, a2, a3, a4⟩ | a1
  · refine .inl ⟨i, a1, a2, a3, a4, ?_⟩
    refine scan_eq (fun i => rowS p i = rowS q i) a b ab _ _ (fun i => (i, true, 0, ())) _ (fun j j0 j1 => ?_) ?_ (.inl ⟨i, a1, a2, a3, a4, rfl⟩)
    · dsimp only
      refine ⟨fun h => (step j j0 j1).trans ?_, fun h => (step j j0 j1).trans ?_⟩
      · rw [decide_eq_true h]; rfl
      · rw [decide_eq_false h]; rfl
    · dsimp only
      rw [decide_eq_false (by omega : ¬ b < b)]; rfl
  · refine .inr ⟨a1, ?_⟩
    refine scan_eq (fun i => rowS p i = rowS q i) a b ab _ _ (fun i => (i, true, 0, ())) _ (fun j j0 j1 => ?_) ?_ (.inr ⟨a1, rfl⟩)
    · dsimp only
      refine ⟨fun h => (step j j0 j1).trans ?_, fun h => (step j j0 j1).trans ?_⟩
      · rw [decide_eq_true h]; rfl
      · rw [decide_eq_false h]; rfl
    · dsimp only
      rw [decide_eq_false (by omega : ¬ b < b)]; rfl
theorem p_step_no (p q : PlanD) (wp : WfP p) (wq : WfP q) (a b : Int) (h : ¬ (PlanOkD p ∧ PlanOkD q ∧ 0 ≤ a ∧ a ≤ b ∧ b ≤ p.1 ∧ b ≤ q.1)) : diff_Step (p, q, a, b, ()) = some (0, false, 1, ()) := by
  unfold diff_Step
  dsimp only
  rw [p_planD p wp, p_planD q wq]
  by_cases hp : PlanOkD p
  rotate_left
  · rw [if_neg hp]; rfl
  rw [if_pos hp]
  by_cases hq : PlanOkD q
  rotate_left
  · rw [if_neg hq]; rfl
  rw [if_pos hq]
  by_cases h1 : a < 0
  · rw [decide_eq_true h1]; rfl
  rw [decide_eq_false h1]
  by_cases h2 : a > b
  · rw [decide_eq_true h2]; rfl
  rw [decide_eq_false h2]
  rw [decide_eq_true (by
    have : ¬ (b ≤ p.1 ∧ b ≤ q.1) := fun k => h ⟨hp, hq, by omega, by omega, k.1, k.2⟩
    simp only [minL]; split <;> omega : b > minL p.1 [q.1])]
  rfl
theorem pure_DiffStep (x : Ty.D (.tu T34 (.tu T34 (.tu T35 .unit)))) (h : Ty.wf (.tu T34 (.tu T34 (.tu T35 .unit))) x) : regimenlaw51_DiffStep x = some true := by
  obtain ⟨p, q, ⟨a, b, _⟩, _⟩ := x
  obtain ⟨hp, hq, _⟩ := h
  change PlanD at p
  change PlanD at q
  change Int at a
  change Int at b
  have wp : WfP p := by
    obtain ⟨a0, a1, a2, a3, a4, sp, fz, tr, st, cu, ke, em, o1, o2, o3, sf, se, _⟩ := p
    obtain ⟨_, _, _, _, _, hsp, hfz, htr, _⟩ := hp
    exact ⟨hsp.1, hfz.1, htr.1, fun t ht => (htr.2 t ht).2.2.1.1⟩
  have wq : WfP q := by
    obtain ⟨a0, a1, a2, a3, a4, sp, fz, tr, st, cu, ke, em, o1, o2, o3, sf, se, _⟩ := q
    obtain ⟨_, _, _, _, _, hsp, hfz, htr, _⟩ := hq
    exact ⟨hsp.1, hfz.1, htr.1, fun t ht => (htr.2 t ht).2.2.1.1⟩
  unfold regimenlaw51_DiffStep
  dsimp only
  obtain ⟨q1, e1⟩ := lightD p
  obtain ⟨q2, e2⟩ := lightD q
  rw [awake51, e1, e2]
  cases q1 with
  | false => rfl
  | true =>
  cases q2 with
  | false => rfl
  | true =>
  by_cases k1 : p.1 > 500
  · rw [decide_eq_true k1]; rfl
  rw [decide_eq_false k1]
  by_cases k2 : q.1 > 500
  · rw [decide_eq_true k2]; rfl
  rw [decide_eq_false k2, r_mayD p wp, r_mayD q wq]
  by_cases hp : PlanOkD p
  rotate_left
  · rw [decide_eq_false hp, p_step_no p q wp wq a b (fun h => hp h.1)]; rfl
  rw [decide_eq_true hp]
  by_cases hq : PlanOkD q
  rotate_left
  · rw [decide_eq_false hq, p_step_no p q wp wq a b (fun h => hq h.2.1)]; rfl
  rw [decide_eq_true hq]
  by_cases k3 : a < 0
  · rw [decide_eq_true k3, p_step_no p q wp wq a b (fun h => by omega)]; rfl
  rw [decide_eq_false k3]
  by_cases k4 : a > b
  · rw [decide_eq_true k4, p_step_no p q wp wq a b (fun h => by omega)]; rfl
  rw [decide_eq_false k4]
  by_cases k5 : b > p.1
  · rw [decide_eq_true k5, p_step_no p q wp wq a b (fun h => by omega)]; rfl
  rw [decide_eq_false k5]
  by_cases k6 : b > q.1
  · rw [decide_eq_true k6, p_step_no p q wp wq a b (fun h => by omega)]; rfl
  rw [decide_eq_false k6]
  have hrow : ∀ i, a ≤ i → i < b → regimenref51_Row (p, i, ()) = some (rowS p i) ∧ regimenref51_Row (q, i, ()) = some (rowS q i) ∧ regimenref01_Same (rowS p i, rowS q i, ()) = some (decide (rowS p i = rowS q i)) := fun i i0 i1 =>
    ⟨r_Row p hp i (by omega) (by omega), r_Row q hq i (by omega) (by omega), (r_same01 _).trans (equal_ID _ _ (by have := rowS_len p hp i; omega))⟩
  have hs := p_step p q wp wq a b hp hq (by omega) (by omega) (by omega) (by omega) (by omega)
  simp only [bnd_mk, decide_true, Bool.not_true, Bool.not_false, cnd_t, cnd_f]
  rcases hs with ⟨i, a1, a2, a3, a4, a5⟩ | ⟨a1, a2⟩
  · rw [a5]
    simp only [bnd_mk]
    refine scan_eq (fun i => rowS p i = rowS q i) a b (by omega) _ _ (fun j => decide (i = j)) _ (fun j j0 j1 => ?_) ?_ (.inl ⟨i, a1, a2, a3, a4, decide_eq_true rfl⟩)
    · dsimp only
      rw [decide_eq_true j1, cnd_t, (hrow j j0 j1).1, bnd_mk, (hrow j j0 j1).2.1, bnd_mk, (hrow j j0 j1).2.2, bnd_mk, wr_id (x := j + 1) (by omega) (by omega)]
      refine ⟨fun h => ?_, fun h => ?_⟩
      · rw [decide_eq_true h]; rfl
      · rw [decide_eq_false h]
        by_cases hij : i = j
        · rw [decide_eq_true hij]; rfl
        · rw [decide_eq_false hij]; rfl
    · dsimp only
      rw [decide_eq_false (by omega : ¬ b < b)]; rfl
  · rw [a2]
    simp only [bnd_mk]
    refine scan_eq (fun i => rowS p i = rowS q i) a b (by omega) _ _ (fun j => false) _ (fun j j0 j1 => ?_) ?_ (.inr ⟨a1, rfl⟩)
    · dsimp only
      rw [decide_eq_true j1, cnd_t, (hrow j j0 j1).1, bnd_mk, (hrow j j0 j1).2.1, bnd_mk, (hrow j j0 j1).2.2, bnd_mk, wr_id (x := j + 1) (by omega) (by omega)]
      refine ⟨fun h => ?_, fun h => (h (a1 j j0 j1)).elim⟩
      rw [decide_eq_true h]; rfl
    · dsimp only
      rw [decide_eq_false (by omega : ¬ b < b)]; rfl
end Go.Proofs.YtggmomkohmcciabGreat.F
