/- The law BudgetParts, in plain Lean: budgets of steps one behind the other are that of all, and for how many steps a budget is enough. -/
import Derived.Test.YtgghhgbbbhncaaaVx3
import Derived.Test.YtgghhgbbbhncaaaP54BudgetParts
set_option linter.unusedVariables false
set_option linter.unusedSimpArgs false
namespace Go.Proofs.Ytgghhgbbbhncaaa.F
open Go.VX
open Classical
theorem pure_BudgetParts (x : Ty.D (.tu T78 (.tu T64 (.tu T90 .unit)))) (h : Ty.wf (.tu T78 (.tu T64 (.tu T90 .unit))) x) : regimenlaw54_BudgetParts x = some true := by
  obtain ⟨⟨a0, a1, a2, a3, a4, sp, fz, tr, st, cu, ke, em, o1, o2, o3, sf, se, _⟩, ⟨x0, x1, x2, _⟩, ⟨mh, ml, _⟩, _⟩ := x
  obtain ⟨⟨_, _, _, _, _, hsp, hfz, htr, _⟩, _, ⟨hmh, hml, _⟩, _⟩ := h
  change Int at a0
  change Int at x0
  change Int at x1
  change Int at x2
  change Int at mh
  change Int at ml
  have hmh0 : 0 ≤ mh := hmh.1
  have hml0 : 0 ≤ ml := hml.1
  have hg : ∀ t ∈ tr, t.2.2.1.length ≤ 9223372036854775807 := fun t ht => (htr.2 t ht).2.2.1.1
  unfold regimenlaw54_BudgetParts
  dsimp only
  rw [awake54]
  obtain ⟨q1, e1⟩ := light a0 a1 a2 a3 a4 sp fz tr st cu ke em o1 o2 o3 sf se
  obtain ⟨q3, e3, f3⟩ := r_may a0 a1 a2 a3 a4 sp fz tr st cu ke em o1 o2 o3 sf se hsp.1 hfz.1 htr.1 hg
  rw [e1, e3]
  cases q1 with
  | false => rfl
  | true =>
  by_cases k1 : a0 > 300
  · rw [decide_eq_true k1]; rfl
  rw [decide_eq_false k1]
  cases q3 with
  | false => rfl
  | true =>
  have hp := f3.1 rfl
  by_cases k2 : x0 < 0
  · rw [decide_eq_true k2]; rfl
  rw [decide_eq_false k2]
  by_cases k3 : x0 ≥ (tr.length : Int)
  · rw [decide_eq_true k3]; rfl
  rw [decide_eq_false k3]
  by_cases k4 : x1 < 0
  · rw [decide_eq_true k4]; rfl
  rw [decide_eq_false k4]
  by_cases k5 : x1 > x2
  · rw [decide_eq_true k5]; rfl
  rw [decide_eq_false k5]
  by_cases k6 : x2 > a0
  · rw [decide_eq_true k6]; rfl
  rw [decide_eq_false k6]
  obtain ⟨t, rfl⟩ : ∃ t : Nat, x0 = t := ⟨x0.toNat, by omega⟩
  have hn : t < tr.length := by omega
  have htr2 := hp.2.2.2.1.1 t hn
  have hso := htr2.2.2.1
  have hl0 := htr2.2.2.2.1
  have ha0 : 1 ≤ a0 := hp.1.1
  have hl : (nth zTrack tr t).2.2.1.length ≤ 4611686018427387903 := seg_len _ hso a0 htr2.2.2.2.2.2 (by omega)
  obtain ⟨n, e4, h1, h2, h3⟩ := p_reach a0 a1 a2 a3 a4 sp fz tr st cu ke em o1 o2 o3 sf se hp hsp.1 hfz.1 htr.1 hg t hn (by omega) hl mh ml hmh0 hml0
  have hof := fun x y hx hxy hy => p_budget a0 a1 a2 a3 a4 sp fz tr st cu ke em o1 o2 o3 sf se hp hsp.1 hfz.1 htr.1 hg t hn (by omega) hl x y hx hxy hy
  simp only [bnd_mk, Bool.not_true, Bool.not_false, cnd_t, cnd_f]
  rw [hof 0 x1 (by omega) (by omega) (by omega), hof x1 x2 (by omega) (by omega) (by omega), hof 0 x2 (by omega) (by omega) (by omega), e4]
  obtain ⟨b, rfl⟩ : ∃ b : Nat, x1 = b := ⟨x1.toNat, by omega⟩
  obtain ⟨c, rfl⟩ : ∃ c : Nat, x2 = ((b + c : Nat) : Int) := ⟨(x2 - b).toNat, by omega⟩
  rw [show ((b : Int) - 0).toNat = b by omega, show (((b + c : Nat) : Int) - (b : Int)).toNat = c by omega, show (((b + c : Nat) : Int) - 0).toNat = b + c by omega]
  have s1 := sumV_range (nth zTrack tr t).2.2.1 hso hl0 hl 0 b
  have s2 := sumV_range (nth zTrack tr t).2.2.1 hso hl0 hl b c
  have s3 := sumV_add (nth zTrack tr t).2.2.1 0 b c
  rw [Int.zero_add] at s3
  simp only [bnd_mk]
  rw [p_add _ _ s1.1 s2.1 (by omega), ← s3]
  simp only [bnd_mk]
  rw [(eqT_iff (.pr (.int .u64) (.pr (.int .u64) .unit)) rfl (0, sumV (nth zTrack tr t).2.2.1 0 (b + c), ()) (0, sumV (nth zTrack tr t).2.2.1 0 (b + c), ())).2 rfl, decide_eq_false (by omega : ¬ (n : Int) < 0), decide_eq_false (by omega : ¬ (n : Int) > a0)]
  simp only [bnd_mk, decide_true, Bool.not_true, Bool.not_false, cnd_t, cnd_f]
  rw [hof 0 n (by omega) (by omega) (by omega), show ((n : Int) - 0).toNat = n by omega]
  simp only [bnd_mk, decide_true, Bool.not_true, Bool.not_false, cnd_t, cnd_f]
  obtain ⟨r, e5, f5⟩ := p_paircmp (sumV (nth zTrack tr t).2.2.1 0 n) mh ml hmh0
  rw [e5, bnd_mk, decide_eq_false (fun k => h2 (f5.1 k))]
  simp only [bnd_mk, cnd_f]
  by_cases hlast : (n : Int) = a0
  · rw [decide_eq_true hlast]; rfl
  · rw [decide_eq_false hlast, cnd_f, wr_id (x := (n : Int) + 1) (by omega) (by omega), hof 0 ((n : Int) + 1) (by omega) (by omega) (by omega), show ((n : Int) + 1 - 0).toNat = n + 1 by omega]
    obtain ⟨r', e6, f6⟩ := p_paircmp (sumV (nth zTrack tr t).2.2.1 0 (n + 1)) mh ml hmh0
    simp only [bnd_mk, decide_true, Bool.not_true, Bool.not_false, cnd_t, cnd_f]
    rw [e6, bnd_mk, decide_eq_true (f6.2 (h3 (by omega)))]
    rfl
end Go.Proofs.Ytgghhgbbbhncaaa.F
