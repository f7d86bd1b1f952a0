/- The law ScaleOf, in plain Lean: any nodes, and any recipe's rates, scaled by any number. -/
import Derived.Test.YtldfbdifpmgegaaVx3
import Derived.Test.YtldfbdifpmgegaaFScaleOf
import Derived.Test.YtldfbdifpmgegaaPMScaleOf
set_option linter.unusedVariables false
set_option linter.unusedSimpArgs false
namespace Go.Proofs.Ytldfbdifpmgegaa.F
open Go.VX
theorem out_nodes (l : List NodeD) (k : Int) (h : k < 0 ∨ k > 4294967296) : scale_Nodes (l, k, ()) = some ([], 1, ()) := by
  unfold scale_Nodes
  dsimp only
  by_cases h1 : k < 0
  · rw [decide_eq_true h1]; rfl
  · rw [decide_eq_false h1, decide_eq_true (by omega : k > 4294967296)]; rfl
abbrev zRec : RecipeD := ([], 0, 0, 0, [], [], 0, [], (false, [], false, 0, 0, false, ()), (false, [], false, 0, 0, 0, 0, 0, ()), (false, [], false, 0, ()), (false, 0, ()), (false, (0, 0, ()), 0, ()), ())
theorem out_rates (r : RecipeD) (k : Int) (h : k < 0 ∨ k > 4294967296) : scale_Rates (r, k, ()) = some (zRec, 1, ()) := by
  unfold scale_Rates
  dsimp only
  by_cases h1 : k < 0
  · rw [decide_eq_true h1]; rfl
  · rw [decide_eq_false h1, decide_eq_true (by omega : k > 4294967296)]; rfl
theorem awake53 : regimenlaw53_awake () = some true := by
  unfold regimenlaw53_awake
  rw [p_nodes 2147483648 (by omega) (by omega) [(1, 4294967296, 0, 0, 0, (0, 0, ()), ())] (by simp) (fun j hj => by
    have : j = 0 := by simp at hj; exact hj
    subst this
    exact ⟨⟨by decide, by decide⟩, ⟨by decide, by decide⟩, ⟨by decide, by decide⟩⟩), out_nodes [] (-1) (by omega)]
  rfl
theorem wf_i64 {x : Int} (h : Ty.wf (.int .i64) x) : I64 x := h
theorem pure_ScaleOf (x : Ty.D (.tu T37 T67)) (h : Ty.wf (.tu T37 T67) x) : regimenlaw53_ScaleOf x = some true := by
  obtain ⟨r, l, k, _⟩ := x
  obtain ⟨hr, hl, _⟩ := h
  change RecipeD at r
  change List NodeD at l
  change Int at k
  have ea : bnd (regimenlaw53_awake ()) (fun r3 => some r3) = some true := by rw [awake53]; rfl
  unfold regimenlaw53_ScaleOf
  dsimp only
  rw [ea]
  obtain ⟨q, e, hq⟩ := light18 r
  rw [e, bnd_mk]
  cases q with
  | false => rfl
  | true =>
    have hL := hq rfl
    by_cases k1 : (l.length : Int) > 60
    · rw [decide_eq_true k1]; rfl
    rw [decide_eq_false k1]
    by_cases hk : k < 0 ∨ k > 4294967296
    · rw [out_nodes l k hk, out_rates r k hk]
      have ez := same_refl zRec (by simp) (by simp) (by simp) (fun j hj => by simp at hj)
      have hb : (cnd (!(decide (k < 0))) (some (decide (k > 4294967296))) (some true)) = some true := by
        by_cases h1 : k < 0
        · rw [decide_eq_true h1]; rfl
        · rw [decide_eq_false h1, decide_eq_true (by omega : k > 4294967296)]; rfl
      simp only [bnd_mk]
      rw [hb, ez]
      rfl
    · have hnl : ∀ j, j < l.length → NodeR (nth zNode l j) := fun j hj => by
        have := hl.2 _ (nth_mem (z := zNode) hj)
        exact ⟨this.2.1, this.2.2.1, this.2.2.2.1⟩
      obtain ⟨_, _, _, _, hp4, hp5, _, hph, _⟩ := hr
      have hR : ∀ j, j < r.2.2.2.2.2.2.2.1.length → PhR (nth zPhase r.2.2.2.2.2.2.2.1 j) := fun j hj => by
        have hlj := hL.2.2.2.2.1 j hj
        have hw := hph.2 _ (nth_mem (z := zPhase) hj)
        refine ⟨by have := hlj.2.2.1; omega, fun m hm => ⟨by have := (hlj.2.2.2.1 m hm).2; omega, fun n hn => ?_⟩⟩
        have h2 := hw.2.2.2.1.2 _ (nth_mem (z := zSet) hm)
        have h3 := h2.2.2.1.2 _ (nth_mem (z := zNode) hn)
        exact ⟨h3.2.1, h3.2.2.1, h3.2.2.2.1⟩
      have hlen : r.2.2.2.2.2.2.2.1.length ≤ 1000000 := by have := hL.2.2.2.1; omega
      rw [p_nodes k (by omega) (by omega) l (by omega) hnl, r_nodes k (by omega) (by omega) l (by omega) hnl, p_rates k (by omega) (by omega) r hlen hR, r_rates k (by omega) (by omega) r hlen hR]
      have e1 : regimenref15_Same (l.map (gN k), l.map (gN k), ()) = some true := nodes_refl _ (by simp; omega)
      have e2 : regimenref17_Same (RatesS k r, RatesS k r, ()) = some true := same_refl _ hp4.1 hp5.1 (by simp [RatesS]; omega) (fun j hj => by
        have hj' : j < r.2.2.2.2.2.2.2.1.length := by simpa [RatesS] using hj
        have hj2 := hR j hj'
        simp only [RatesS]
        rw [nth_map zPhase zPhase (gP k) hj']
        have hw := hph.2 _ (nth_mem (z := zPhase) hj')
        refine ⟨hw.2.2.1.1, by simp only [gP, List.length_map]; have := hj2.1; omega, fun m hm => ?_⟩
        simp only [gP] at hm ⊢
        have hm' : m < (nth zPhase r.2.2.2.2.2.2.2.1 j).2.2.2.1.length := by simpa using hm
        rw [nth_map zSet zSet (gS k) hm']
        have := (hj2.2 m hm').1
        unfold gS
        split
        · simp only [List.length_map]; omega
        · omega)
      have hb1 : ¬ k < 0 := by omega
      have hb2 : ¬ k > 4294967296 := by omega
      simp only [bnd_mk]
      rw [decide_eq_false hb1, decide_eq_false hb2, e1, e2]
      rfl
end Go.Proofs.Ytldfbdifpmgegaa.F
