/- The law BudgetOf, in plain Lean: any track's budget and mean over any steps, of any plan. -/
import Derived.Test.YtgghhgbbbhncaaaGreatVx3
import Derived.Test.YtgghhgbbbhncaaaGreatP54BBudgetOf
set_option linter.unusedVariables false
set_option linter.unusedSimpArgs false
namespace Go.Proofs.YtgghhgbbbhncaaaGreat.F
open Go.VX
open Classical
theorem pure_BudgetOf (x : Ty.D (.tu T34 (.tu (.int .i64) (.tu T36 .unit)))) (h : Ty.wf (.tu T34 (.tu (.int .i64) (.tu T36 .unit))) x) : regimenlaw54_BudgetOf x = some true := by
  obtain ⟨⟨a0, a1, a2, a3, a4, sp, fz, tr, st, cu, ke, em, o1, o2, o3, sf, se, _⟩, x0, ⟨x1, x2, _⟩, _⟩ := x
  obtain ⟨⟨_, _, _, _, _, hsp, hfz, htr, _⟩, _⟩ := h
  change Int at a0
  change Int at x0
  change Int at x1
  change Int at x2
  have hg : ∀ t ∈ tr, t.2.2.1.length ≤ 9223372036854775807 := fun t ht => (htr.2 t ht).2.2.1.1
  have ea : bnd (regimenlaw54_awake ()) (fun r => some r) = some true := by rw [awake54]; rfl
  unfold regimenlaw54_BudgetOf
  dsimp only
  rw [ea]
  obtain ⟨q1, e1⟩ := light a0 a1 a2 a3 a4 sp fz tr st cu ke em o1 o2 o3 sf se
  obtain ⟨q3, e3, f3⟩ := r_may a0 a1 a2 a3 a4 sp fz tr st cu ke em o1 o2 o3 sf se hsp.1 hfz.1 htr.1 hg
  rw [e1, e3]
  cases q1 with
  | false => rfl
  | true =>
  by_cases k1 : a0 > 300
  · rw [decide_eq_true k1]; rfl
  rw [decide_eq_false k1]
  simp only [bnd_mk, Bool.not_true, Bool.not_false, cnd_t, cnd_f]
  by_cases hall : q3 = true ∧ ¬ x0 < 0 ∧ ¬ x0 ≥ (tr.length : Int) ∧ ¬ x1 < 0 ∧ ¬ x2 < x1 ∧ ¬ x2 > a0
  rotate_left
  · have hof : budget_Of ((a0, a1, a2, a3, a4, sp, fz, tr, st, cu, ke, em, o1, o2, o3, sf, se, ()), x0, (x1, x2, ()), ()) = some ((0, 0, ()), 1, ()) := by
      unfold budget_Of budget_check
      dsimp only
      rw [p_plan _ _ _ _ _ _ _ _ _ _ _ _ _ _ _ _ _ hsp.1 hfz.1 htr.1 hg]
      by_cases hp : PlanOk a0 a1 a2 a3 a4 sp fz tr st cu ke em o1 o2 o3 sf se
      rotate_left
      · rw [if_neg hp]; rfl
      rw [if_pos hp]
      by_cases k2 : x0 < 0
      · rw [decide_eq_true k2]; rfl
      by_cases k3 : x0 ≥ (tr.length : Int)
      · rw [decide_eq_false k2, decide_eq_true k3]; rfl
      rw [decide_eq_false k2, decide_eq_false k3, decide_eq_false (by omega : ¬ a0 > 10000)]
      by_cases k4 : x1 < 0
      · rw [decide_eq_true k4]; rfl
      by_cases k5 : x2 < x1
      · rw [decide_eq_false k4, decide_eq_true k5]; rfl
      by_cases k6 : x2 > a0
      · rw [decide_eq_false k4, decide_eq_false k5, decide_eq_true k6]; rfl
      exact (hall ⟨f3.2 hp, k2, k3, k4, k5, k6⟩).elim
    have hmean : budget_Mean ((a0, a1, a2, a3, a4, sp, fz, tr, st, cu, ke, em, o1, o2, o3, sf, se, ()), x0, (x1, x2, ()), ()) = some (0, 1, ()) := by
      unfold budget_Mean
      dsimp only
      rw [hof]; rfl
    rw [hof, hmean]
    simp only [bnd_mk]
    cases q3 with
    | false => rfl
    | true =>
      by_cases k2 : x0 < 0
      · rw [decide_eq_true k2]; rfl
      by_cases k3 : x0 ≥ (tr.length : Int)
      · rw [decide_eq_false k2, decide_eq_true k3]; rfl
      by_cases k4 : x1 < 0
      · rw [decide_eq_false k2, decide_eq_false k3, decide_eq_true k4]; rfl
      by_cases k5 : x2 < x1
      · rw [decide_eq_false k2, decide_eq_false k3, decide_eq_false k4, decide_eq_true k5]; rfl
      by_cases k6 : x2 > a0
      · rw [decide_eq_false k2, decide_eq_false k3, decide_eq_false k4, decide_eq_false k5, decide_eq_true k6]; rfl
      exact (hall ⟨rfl, k2, k3, k4, k5, k6⟩).elim
  obtain ⟨hq, k2, k3, k4, k5, k6⟩ := hall
  have hp := f3.1 hq
  obtain ⟨t, rfl⟩ : ∃ t : Nat, x0 = t := ⟨x0.toNat, by omega⟩
  have hn : t < tr.length := by omega
  have hT := hp.2.2.2.1.1 t hn
  have hso := hT.2.2.1
  have hl0 := hT.2.2.2.1
  have hl : (nth zTrack tr t).2.2.1.length ≤ 4611686018427387903 := seg_len _ hso a0 hT.2.2.2.2.2 (by omega)
  have hof := p_budget a0 a1 a2 a3 a4 sp fz tr st cu ke em o1 o2 o3 sf se hp hsp.1 hfz.1 htr.1 hg t hn (by omega) hl x1 x2 (by omega) (by omega) (by omega)
  obtain ⟨S, g1, g2, g3, g4⟩ := r_sum54 a0 a1 a2 a3 a4 sp fz tr st cu ke em o1 o2 o3 sf se t hn hT (by omega) x1 x2 (by omega) (by omega) (by omega)
  have hr := sumV_range (nth zTrack tr t).2.2.1 hso hl0 hl x1 (x2 - x1).toNat
  generalize hd : sumV (nth zTrack tr t).2.2.1 x1 (x2 - x1).toNat = B at *
  rw [hq, decide_eq_false k2, decide_eq_false k3, decide_eq_false k4, decide_eq_false k5, decide_eq_false k6, hof, g1]
  simp only [bnd_mk, Bool.not_true, Bool.not_false, cnd_t, cnd_f]
  rw [mod S g2, t_mod S g2, t_high S g2 (by omega), g3, show B % 18446744073709551616 = B from Int.emod_eq_of_lt (by omega) (by omega)]
  unfold budget_Mean
  dsimp only
  rw [hof]
  simp only [bnd_mk, decide_true, Bool.not_true, Bool.not_false, cnd_t, cnd_f]
  rw [(eqT_iff (.pr (.int .u64) (.pr (.int .u64) .unit)) rfl (0, B, ()) (0, B, ())).2 rfl]
  simp only [Bool.not_true, Bool.not_false, cnd_t, cnd_f]
  by_cases he : x1 = x2
  · subst he
    rw [show wr .u64 (wr .i64 (x1 - x1)) = 0 by rw [Int.sub_self]; rfl, p_near 0 B 0 (by omega) (by omega) (by omega) (by omega) (by omega) (by omega), decide_eq_true rfl]
    rfl
  · obtain ⟨n1, n2, n3⟩ := mean54 B (x2 - x1) (by omega) (by omega) (by omega) (by omega)
    obtain ⟨z, z1, z2, z3, z4⟩ := size (x2 - x1) (by omega) (by omega)
    have hz : V z = x2 - x1 := by rw [z3]; unfold Abs; rw [if_neg (by omega)]
    obtain ⟨w, w1, w2, w3, w4⟩ := rounded S z g2 z2 (by omega) (by omega) (by omega)
    obtain ⟨y, y1, y2, y3, y4⟩ := size (Rd B (x2 - x1)) (by omega) (by omega)
    have hy : V y = Rd B (x2 - x1) := by rw [y3]; unfold Abs; rw [if_neg (by omega)]
    rw [n1, decide_eq_false he]
    simp only [bnd_mk, cnd_f]
    rw [wr_id (x := x2 - x1) (by omega) (by omega), z1]
    simp only [bnd_mk]
    rw [w1]
    simp only [bnd_mk]
    rw [wr_id (x := Rd B (x2 - x1)) (by omega) (by omega), y1]
    simp only [bnd_mk]
    rw [cmp y w y2 w2 (by omega) (by omega), hy, w3, hz, g3, if_neg (by omega), if_neg (by omega), bnd_mk, decide_eq_true rfl, decide_eq_true (by omega : Rd B (x2 - x1) ≥ 0)]
    rfl
end Go.Proofs.YtgghhgbbbhncaaaGreat.F
