/- The law FlatAt, in plain Lean: any schedule's value at any place, within its ends. -/
import Derived.Test.YtggmomkohmcciaaGreatVx3
import Derived.Test.YtggmomkohmcciaaGreatP25RFlatAt
import Derived.Test.YtggmomkohmcciaaGreatP25WFlatAt
set_option linter.unusedVariables false
set_option linter.unusedSimpArgs false
namespace Go.Proofs.YtggmomkohmcciaaGreat.F
open Go.VX
open Classical
theorem pure_FlatAt (x : Ty.D (.tu T22 T64)) (h : Ty.wf (.tu T22 T64) x) : regimenlaw25_FlatAt x = some true := by
  obtain ⟨l, ⟨i, n, _⟩, ep, _⟩ := x
  change List NodD at l
  change Int at i
  change Int at n
  change Int at ep
  unfold regimenlaw25_FlatAt
  dsimp only
  rw [awake25]
  by_cases hl : (l.length : Int) > 70
  · rw [decide_eq_true hl]; rfl
  rw [decide_eq_false hl, cnd_f, r_flatmay l ep (by omega)]
  by_cases hF : FlatOk l ep
  rotate_left
  · rw [p_At_no l i n ep (by omega) (fun h => hF h.1), decide_eq_false hF]; rfl
  rw [decide_eq_true hF]
  by_cases h1 : n < 1
  · rw [p_At_no l i n ep (by omega) (fun h => by omega), decide_eq_true h1]; rfl
  rw [decide_eq_false h1]
  by_cases h2 : n > 1000000
  · rw [p_At_no l i n ep (by omega) (fun h => by omega), decide_eq_true h2]; rfl
  rw [decide_eq_false h2]
  by_cases h3 : i < 0
  · rw [p_At_no l i n ep (by omega) (fun h => by omega), decide_eq_true h3]; rfl
  rw [decide_eq_false h3]
  by_cases h4 : i ≥ n
  · rw [p_At_no l i n ep (by omega) (fun h => by omega), decide_eq_true h4]; rfl
  rw [decide_eq_false h4]
  have h0 := walk_pos _ _ _ hF.1.1.1
  have hw := whole_at l hF.1.1.1 0 h0
  have hd := hF.1.2.2
  have e1 := r_At25 l ep (by have := hF.1.1.2; omega) hF.2.1 hF.2.2.1 hF.2.2.2 0 i n h0 hw (by omega) (by omega) (by rw [List.drop_zero]; omega)
  rw [List.drop_zero] at e1
  have hb := atS_in ep (mn 4503599627370496 (allE l)) (mx 0 (allE l)) hF.2.2.1 hF.2.2.2 ?_ ?_ _ l (Nat.le_refl _) hF.2.1 (fun d hd x hx => ⟨(mn_le _ _).2 x (mem_allE l d x hd hx), (mx_ge _ _).2 x (mem_allE l d x hd hx)⟩) hw i n (by omega) (by omega) (by omega)
  · rw [(p_At l i n ep hF (by omega) (by omega) (by omega)).1, p_Ends l (by omega) hF.1, show regimenref25_At (l, 0, i, n, ep, ()) = _ from e1]
    simp only [bnd_mk, Bool.not_true, Bool.not_false, cnd_t, cnd_f, decide_true]
    rw [decide_eq_true (show AtS ep l i n ≥ mn 4503599627370496 (allE l) from hb.1)]
    simp only [bnd_mk, cnd_t]
    rw [decide_eq_true hb.2]
    rfl
  · exact (mn_range _ _ (by omega) (allE_q l (fun d hd => node_q (hF.2.1 d hd).1))).1
  · exact (mx_range _ _ (by omega) (allE_q l (fun d hd => node_q (hF.2.1 d hd).1))).2
end Go.Proofs.YtggmomkohmcciaaGreat.F
