/- The law CurveRises, in plain Lean: lines and polynomials never turn back on the way from A to B. -/
import Derived.Test.YtldfbdifpmgegaaVx3
import Derived.Test.YtldfbdifpmgegaaFCurveRises
import Derived.Test.YtldfbdifpmgegaaPQCurveRises
set_option linter.unusedVariables false
set_option linter.unusedSimpArgs false
namespace Go.Proofs.Ytldfbdifpmgegaa.F
open Go.VX
open Classical
theorem awake09 : regimenlaw09_awake () = some true := by
  unfold regimenlaw09_awake
  rw [p_at2 (2, 0, 4294967296, 0, ()) 1 3 (by unfold CurveOk; dsimp only; omega) (by omega) (by omega) (by omega) (by omega) rfl, p_at4 (4, 4294967296, 0, 2147483648, ()) 2 9 (by unfold CurveOk; dsimp only; omega) (by omega) (by omega) (by omega) (by omega) rfl]
  rfl
theorem shareS_mono (i n : Int) (n0 : 2 ≤ n) : ShareS i n ≤ ShareS (i + 1) n := by
  unfold ShareS
  rw [if_neg (by omega), if_neg (by omega)]
  exact rd_mono (by omega) (by omega)
theorem lerp_up (a b : Int) {t t' : Int} (h : t ≤ t') (hab : a ≤ b) : LerpS a b t ≤ LerpS a b t' := by
  unfold LerpS
  rw [if_pos hab, if_pos hab]
  have := rd_mono (d := 4294967296) (by omega) (Int.mul_le_mul_of_nonneg_left h (by omega : 0 ≤ b - a))
  omega
theorem lerp_down (a b : Int) {t t' : Int} (h : t ≤ t') (hab : b ≤ a) : LerpS a b t' ≤ LerpS a b t := by
  unfold LerpS
  by_cases e : a ≤ b
  · have : b = a := by omega
    subst this
    simp
  · rw [if_neg e, if_neg e]
    have := rd_mono (d := 4294967296) (by omega) (Int.mul_le_mul_of_nonneg_left h (by omega : 0 ≤ a - b))
    omega
theorem pure_CurveRises (x : Ty.D (.tu T75 T77)) (h : Ty.wf (.tu T75 T77) x) : regimenlaw09_CurveRises x = some true := by
  obtain ⟨c, i, n, _⟩ := x
  change CurveD at c
  change Int at i
  change Int at n
  have ea : bnd (regimenlaw09_awake ()) (fun r3 => some r3) = some true := by rw [awake09]; rfl
  unfold regimenlaw09_CurveRises
  dsimp only
  rw [ea, r_curve, bnd_mk]
  by_cases hc : CurveOk c
  · rw [decide_eq_true hc]
    by_cases hk : c.1 = 2 ∨ c.1 = 3
    · have hb : (bnd (cnd (!decide (c.1 = 2)) (some (!decide (c.1 = 3))) (some false)) fun j2 => some j2) = some false := by
        rcases hk with hk | hk
        · rw [decide_eq_true hk]; rfl
        · rw [decide_eq_true hk]; cases decide (c.1 = 2) <;> rfl
      rw [hb]
      by_cases h1 : n < 2
      · rw [decide_eq_true h1]; rfl
      by_cases h2 : n > 1048576
      · rw [decide_eq_false h1, decide_eq_true h2]; rfl
      by_cases h3 : i < 0
      · rw [decide_eq_false h1, decide_eq_false h2, decide_eq_true h3]; rfl
      rw [wr_id (x := n - 1) (by omega) (by omega)]
      by_cases h4 : i ≥ n - 1
      · rw [decide_eq_false h1, decide_eq_false h2, decide_eq_false h3, decide_eq_true h4]; rfl
      rw [decide_eq_false h1, decide_eq_false h2, decide_eq_false h3, decide_eq_false h4, wr_id (x := i + 1) (by omega) (by omega)]
      obtain ⟨u, v, e1, e2, e3, e4⟩ : ∃ u v : Int, curve_At (c, i, n, ()) = some (u, 0, ()) ∧ curve_At (c, i + 1, n, ()) = some (v, 0, ()) ∧ (c.2.1 ≤ c.2.2.1 → u ≤ v) ∧ (c.2.2.1 ≤ c.2.1 → v ≤ u) := by
        have hs := shareS_mono i n (by omega)
        have r1 := shareS_range i n (by omega) (by omega) (by omega)
        have r2 := shareS_range (i + 1) n (by omega) (by omega) (by omega)
        rcases hk with hk | hk
        · exact ⟨_, _, p_at2 c i n hc (by omega) (by omega) (by omega) (by omega) hk, p_at2 c (i + 1) n hc (by omega) (by omega) (by omega) (by omega) hk, fun h => lerp_up _ _ hs h, fun h => lerp_down _ _ hs h⟩
        · have hp := powS_mono c.2.2.2.1 (x := 4294967296 - ShareS (i + 1) n) (x' := 4294967296 - ShareS i n) (by omega) (by omega) (by omega)
          exact ⟨_, _, p_at3 c i n hc (by omega) (by omega) (by omega) (by omega) hk, p_at3 c (i + 1) n hc (by omega) (by omega) (by omega) (by omega) hk, fun h => lerp_down _ _ hp.2.1 h, fun h => lerp_up _ _ hp.2.1 h⟩
      rw [e1, e2]
      simp only [bnd_mk, cnd_t, cnd_f, Bool.not_false, Bool.not_true, decide_true]
      by_cases k : c.2.1 ≤ c.2.2.1
      · rw [decide_eq_true k, decide_eq_true (e3 k)]; rfl
      · rw [decide_eq_false k, decide_eq_true (by omega : c.2.1 ≥ c.2.2.1), decide_eq_true (show u ≥ v from e4 (by omega))]; rfl
    · have hb : (bnd (cnd (!decide (c.1 = 2)) (some (!decide (c.1 = 3))) (some false)) fun j2 => some j2) = some true := by
        rw [decide_eq_false (fun x => hk (.inl x)), decide_eq_false (fun x => hk (.inr x))]; rfl
      rw [hb]; rfl
  · rw [decide_eq_false hc]; rfl
end Go.Proofs.Ytldfbdifpmgegaa.F
