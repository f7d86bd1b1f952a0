/- Recipes: a recipe is the same as itself. -/
import Derived.Test.YtldfbdifpmgegaaPKScaleOf
set_option linter.unusedVariables false
set_option linter.unusedSimpArgs false
namespace Go.Proofs.Ytldfbdifpmgegaa.F
open Go.VX

theorem texts_refl (a : List (List Int)) (h : a.length ≤ 9223372036854775807) : regimenref17_texts (a, a, ()) = some true := by
  unfold regimenref17_texts
  dsimp only
  rw [decide_eq_true rfl]
  rcases eq_loop (fun x y : List Int => decide (x = y)) (fun x y => by simp) a a rfl h false (fun _ => some true) with ⟨_, e⟩ | ⟨hn, _⟩
  · exact e
  · exact (hn rfl).elim
theorem nodes_refl (a : List NodeD) (h : a.length ≤ 9223372036854775807) : regimenref15_Same (a, a, ()) = some true := by
  unfold regimenref15_Same
  dsimp only
  rw [decide_eq_true rfl]
  rcases eq_loop (eqT (.pr (.int .i64) (.pr (.int .i64) (.pr (.int .i64) (.pr (.int .i64) (.pr (.int .i64) (.pr (.pr (.int .i64) (.pr (.int .i64) .unit)) .unit))))))) (eqT_iff _ rfl) a a rfl h false (fun _ => some true) with ⟨_, e⟩ | ⟨hn, _⟩
  · exact e
  · exact (hn rfl).elim
def PhLen (p : PhaseD) : Prop := p.2.2.1.length ≤ 9223372036854775807 ∧ p.2.2.2.1.length ≤ 9223372036854775807 ∧ ∀ j, j < p.2.2.2.1.length → (nth zSet p.2.2.2.1 j).2.2.1.length ≤ 9223372036854775807
theorem phases_refl (a : List PhaseD) (h : a.length ≤ 9223372036854775807) (hp : ∀ j, j < a.length → PhLen (nth zPhase a j)) : regimenref17_phases (a, a, ()) = some true := by
  unfold regimenref17_phases
  dsimp only
  rw [decide_eq_true rfl]
  simp only [Bool.not_true, cnd_f]
  rw [all_as True a.length (fun _ => True) _ (.inr false) (.inl ()) (by simp) ?_ ?_]
  · rfl
  · intro i hi _
    dsimp only
    rw [lt_true hi, cnd_t, ati_d zPhase hi, wr_succ hi h]
    have hv := hp i hi
    generalize nth zPhase a i = v at *
    simp only [bnd_mk]
    simp only [texts_refl _ hv.1, bnd_mk, decide_true, (eqT_iff (.pr (.int .i64) (.pr (.int .i64) .unit)) rfl _ _).2 rfl, cnd_t, cnd_f, Bool.not_false, Bool.not_true]
    rw [all_as True v.2.2.2.1.length (fun _ => True) _ (.inr (.inr (.inr false))) (.inl ()) (by simp) ?_ ?_]
    · rfl
    · intro j hj _
      dsimp only
      rw [lt_true hj, cnd_t, ati_d zSet hj, wr_succ hj hv.2.1]
      have hu := hv.2.2 j hj
      generalize nth zSet v.2.2.2.1 j = u at *
      rw [bnd_mk, bnd_mk, nodes_refl _ hu]
      simp only [bnd_mk, decide_true, cnd_t, cnd_f, Bool.not_false, Bool.not_true]
      rfl
    · intro _
      dsimp only
      rw [lt_false]; rfl
  · intro _
    dsimp only
    rw [lt_false]; rfl
theorem same_refl (r : RecipeD) (h1 : r.2.2.2.2.1.length ≤ 9223372036854775807) (h2 : r.2.2.2.2.2.1.length ≤ 9223372036854775807) (h3 : r.2.2.2.2.2.2.2.1.length ≤ 9223372036854775807) (h4 : ∀ j, j < r.2.2.2.2.2.2.2.1.length → PhLen (nth zPhase r.2.2.2.2.2.2.2.1 j)) : regimenref17_Same (r, r, ()) = some true := by
  unfold regimenref17_Same
  dsimp only
  rw [texts_refl _ h1, texts_refl _ h2, phases_refl _ h3 h4]
  simp only [decide_eq_true rfl]
  rw [(eqT_iff _ rfl _ _).2 rfl, (eqT_iff _ rfl _ _).2 rfl, (eqT_iff _ rfl _ _).2 rfl, (eqT_iff _ rfl _ _).2 rfl, (eqT_iff _ rfl _ _).2 rfl]
  rfl
end Go.Proofs.Ytldfbdifpmgegaa.F
