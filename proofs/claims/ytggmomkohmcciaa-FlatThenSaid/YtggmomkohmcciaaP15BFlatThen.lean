/- Trees as nodes: what is below a node, and how deep a tree is. -/
import Derived.Test.YtggmomkohmcciaaP15AFlatThen
set_option linter.unusedVariables false
set_option linter.unusedSimpArgs false
namespace Go.Proofs.Ytggmomkohmcciaa.F
open Go.VX
open Classical

def belN (l : List Int) (i : Nat) : List Nat := match l.drop i with
  | [] => []
  | o :: r => match arN o with
    | some 1 => [i + 1]
    | some 2 => [i + 1, i + 1 + (walk r 1).getD 0]
    | _ => []
def WholeAt (l : List Int) (i : Nat) : Prop := ∃ k, walk (l.drop i) 1 = some k
def dep (l : List Int) : Nat := match l with
  | [] => 0
  | o :: r => match arN o with
    | some 1 => dep r + 1
    | some 2 => max (dep r) (dep (r.drop ((walk r 1).getD 0))) + 1
    | _ => 1
termination_by l.length
decreasing_by all_goals (simp; try omega)
theorem dep_le (n : Nat) : ∀ l : List Int, l.length ≤ n → dep l ≤ l.length := by
  induction n with
  | zero =>
    intro l h
    have : l = [] := List.eq_nil_of_length_eq_zero (by omega)
    subst this
    rw [dep]; simp
  | succ n ih =>
    intro l h
    cases l with
    | nil => rw [dep]; simp
    | cons o r =>
      rw [List.length_cons] at h
      have h1 := ih r (by omega)
      have h2 := ih (r.drop ((walk r 1).getD 0)) (by rw [List.length_drop]; omega)
      rw [List.length_drop] at h2
      rw [dep, List.length_cons]
      split <;> omega
theorem whole_kids (l : List NodD) {i k : Nat} (hi : i < l.length) (hw : walk ((opsN l).drop i) 1 = some k) :
    arN (nth zNod l i).1 = some 0 ∨ (arN (nth zNod l i).1 = some 1 ∧ ∃ k1, walk ((opsN l).drop (i + 1)) 1 = some k1) ∨
    (arN (nth zNod l i).1 = some 2 ∧ ∃ k1 k2, walk ((opsN l).drop (i + 1)) 1 = some k1 ∧ walk ((opsN l).drop (i + 1 + k1)) 1 = some k2 ∧ 0 < k1) := by
  rw [ops_drop l hi] at hw
  simp only [walk] at hw
  cases ha : arN (nth zNod l i).1 with
  | none => rw [ha] at hw; cases hw
  | some a =>
    rw [ha] at hw
    dsimp only at hw
    have ha2 := ar_le ha
    match a, ha2 with
    | 0, _ => exact .inl rfl
    | 1, _ =>
      cases hk : walk ((opsN l).drop (i + 1)) (0 + 1) with
      | none => rw [hk] at hw; cases hw
      | some k1 => exact .inr (.inl ⟨rfl, k1, rfl⟩)
    | 2, _ =>
      rw [show 0 + 2 = 1 + 1 from rfl, walk_add] at hw
      cases hk : walk ((opsN l).drop (i + 1)) 1 with
      | none => rw [hk] at hw; cases hw
      | some k1 =>
        rw [hk] at hw
        dsimp only at hw
        rw [List.drop_drop] at hw
        cases hk2 : walk ((opsN l).drop (i + 1 + k1)) 1 with
        | none => rw [hk2] at hw; cases hw
        | some k2 => exact .inr (.inr ⟨rfl, k1, k2, rfl, hk2, walk_pos _ _ _ hk⟩)
theorem whole_all (l : List NodD) (h : walk (opsN l) 1 = some l.length) : ∀ i, i ≤ l.length → ∃ c, walk ((opsN l).drop i) c = some (l.length - i) ∧ (i < l.length → 0 < c)
  | 0, _ => ⟨1, h, fun _ => by omega⟩
  | i + 1, hi => by
    obtain ⟨c, hc, h0⟩ := whole_all l h i (by omega)
    obtain ⟨c, rfl⟩ : ∃ d, c = d + 1 := ⟨c - 1, by have := h0 (by omega); omega⟩
    rw [ops_drop l (by omega : i < l.length)] at hc
    simp only [walk] at hc
    cases ha : arN (nth zNod l i).1 with
    | none => rw [ha] at hc; cases hc
    | some a =>
      rw [ha] at hc
      dsimp only at hc
      cases hk : walk ((opsN l).drop (i + 1)) (c + a) with
      | none => rw [hk] at hc; cases hc
      | some k =>
        rw [hk] at hc
        dsimp only at hc
        have hk2 := Option.some.inj hc
        refine ⟨c + a, by rw [hk]; congr 1; omega, fun hlt => ?_⟩
        cases hca : c + a with
        | zero => rw [hca, walk_zero] at hk; cases hk; omega
        | succ d => omega
theorem whole_at (l : List NodD) (h : walk (opsN l) 1 = some l.length) (i : Nat) (hi : i < l.length) : WholeAt (opsN l) i := by
  obtain ⟨c, hc, h0⟩ := whole_all l h i (by omega)
  obtain ⟨c, rfl⟩ : ∃ d, c = 1 + d := ⟨c - 1, by have := h0 hi; omega⟩
  rw [walk_add] at hc
  unfold WholeAt
  cases hk : walk ((opsN l).drop i) 1 with
  | none => rw [hk] at hc; cases hc
  | some k => exact ⟨k, rfl⟩
theorem bel_0 (l : List NodD) {i : Nat} (hi : i < l.length) (ha : arN (nth zNod l i).1 = some 0) : belN (opsN l) i = [] ∧ dep ((opsN l).drop i) = 1 := by
  unfold belN
  rw [ops_drop l hi, dep]
  simp only [ha, and_self]
theorem bel_1 (l : List NodD) {i : Nat} (hi : i < l.length) (ha : arN (nth zNod l i).1 = some 1) : belN (opsN l) i = [i + 1] ∧ dep ((opsN l).drop i) = dep ((opsN l).drop (i + 1)) + 1 := by
  unfold belN
  rw [ops_drop l hi, dep]
  simp only [ha, and_self]
theorem bel_2 (l : List NodD) {i k1 : Nat} (hi : i < l.length) (ha : arN (nth zNod l i).1 = some 2) (hk : walk ((opsN l).drop (i + 1)) 1 = some k1) : belN (opsN l) i = [i + 1, i + 1 + k1] ∧ dep ((opsN l).drop i) = max (dep ((opsN l).drop (i + 1))) (dep ((opsN l).drop (i + 1 + k1))) + 1 := by
  unfold belN
  rw [ops_drop l hi, dep]
  simp only [ha, hk, Option.getD_some, List.drop_drop, and_self]
theorem resE_some (l : List NodD) {i c k : Nat} (h : walk ((opsN l).drop i) c = some k) : resE (opsN l) i c = ((i + k : Nat) : Int) := by
  unfold resE; rw [h]
theorem p_below (l : List NodD) (i : Nat) (hl : l.length ≤ 1000000) (hi : i < l.length) (hw : WholeAt (opsN l) i) : tree_Below (l, (i : Int), ()) = some ((belN (opsN l) i).map fun j : Nat => (j : Int)) := by
  obtain ⟨k, hk⟩ := hw
  unfold tree_Below
  dsimp only
  rw [p_end l i hl (by omega), resE_some l hk, bnd_mk, decide_eq_false (by omega : ¬ ((i + k : Nat) : Int) < 0), cnd_f, ati_d zNod hi, bnd_mk, p_arity, bnd_mk, wr_id (x := (i : Int) + 1) (by omega) (by omega), show (i : Int) + 1 = ((i + 1 : Nat) : Int) by omega]
  rcases whole_kids l hi hk with ha | ⟨ha, k1, h1⟩ | ⟨ha, k1, k2, h1, h2, h3⟩
  · rw [arI_some ha, (bel_0 l hi ha).1, loopP_done rfl]; rfl
  · have hj := walk_le _ _ _ h1
    rw [List.length_drop, ops_len] at hj
    rw [arI_some ha, (bel_1 l hi ha).1, loopP_step (s' := ([((i + 1 : Nat) : Int)], ((i + 1 + k1 : Nat) : Int), 1, ())) (by
      dsimp only
      rw [decide_eq_true (by omega : (0 : Int) < ((1 : Nat) : Int)), cnd_t, app_ok (by simp), bnd_mk, p_end l (i + 1) hl (by omega), resE_some l h1]; rfl), loopP_done rfl]
    rfl
  · have hj := walk_le _ _ _ h1
    rw [List.length_drop, ops_len] at hj
    have hj2 := walk_le _ _ _ h2
    rw [List.length_drop, ops_len] at hj2
    rw [arI_some ha, (bel_2 l hi ha h1).1, loopP_step (s' := ([((i + 1 : Nat) : Int)], ((i + 1 + k1 : Nat) : Int), 1, ())) (by
      dsimp only
      rw [decide_eq_true (by omega : (0 : Int) < ((2 : Nat) : Int)), cnd_t, app_ok (by simp), bnd_mk, p_end l (i + 1) hl (by omega), resE_some l h1]; rfl), loopP_step (s' := ([((i + 1 : Nat) : Int), ((i + 1 + k1 : Nat) : Int)], ((i + 1 + k1 + k2 : Nat) : Int), 2, ())) (by
      dsimp only
      rw [decide_eq_true (by omega : (1 : Int) < ((2 : Nat) : Int)), cnd_t, app_ok (by simp), bnd_mk, p_end l (i + 1 + k1) hl (by omega), resE_some l h2]; rfl), loopP_done rfl]
    rfl
theorem r_below (l : List NodD) (i : Nat) (hl : l.length ≤ 1000000) (hi : i < l.length) (hw : WholeAt (opsN l) i) : regimenref15_Below (l, (i : Int), ()) = some ((belN (opsN l) i).map fun j : Nat => (j : Int)) := by
  obtain ⟨k, hk⟩ := hw
  unfold regimenref15_Below
  dsimp only
  rw [ati_d zNod hi]
  simp only [bnd_mk, r_arity]
  rw [wr_id (x := (i : Int) + 1) (by omega) (by omega), show (i : Int) + 1 = ((i + 1 : Nat) : Int) by omega]
  rcases whole_kids l hi hk with ha | ⟨ha, k1, h1⟩ | ⟨ha, k1, k2, h1, h2, h3⟩
  · rw [arI_some ha, (bel_0 l hi ha).1, loopP_done rfl]; rfl
  · have hj := walk_le _ _ _ h1
    rw [List.length_drop, ops_len] at hj
    rw [arI_some ha, (bel_1 l hi ha).1, loopP_step (s' := ([((i + 1 : Nat) : Int)], ((i + 1 + k1 : Nat) : Int), 1, ())) (by
      dsimp only
      rw [decide_eq_true (by omega : (0 : Int) < ((1 : Nat) : Int)), cnd_t, app_ok (by simp), bnd_mk, r_end l (i + 1) hl (by omega), resE_some l h1]; rfl), loopP_done rfl]
    rfl
  · have hj := walk_le _ _ _ h1
    rw [List.length_drop, ops_len] at hj
    have hj2 := walk_le _ _ _ h2
    rw [List.length_drop, ops_len] at hj2
    rw [arI_some ha, (bel_2 l hi ha h1).1, loopP_step (s' := ([((i + 1 : Nat) : Int)], ((i + 1 + k1 : Nat) : Int), 1, ())) (by
      dsimp only
      rw [decide_eq_true (by omega : (0 : Int) < ((2 : Nat) : Int)), cnd_t, app_ok (by simp), bnd_mk, r_end l (i + 1) hl (by omega), resE_some l h1]; rfl), loopP_step (s' := ([((i + 1 : Nat) : Int), ((i + 1 + k1 : Nat) : Int)], ((i + 1 + k1 + k2 : Nat) : Int), 2, ())) (by
      dsimp only
      rw [decide_eq_true (by omega : (1 : Int) < ((2 : Nat) : Int)), cnd_t, app_ok (by simp), bnd_mk, r_end l (i + 1 + k1) hl (by omega), resE_some l h2]; rfl), loopP_done rfl]
    rfl
theorem dep_at (l : List NodD) (i : Nat) : dep ((opsN l).drop i) ≤ l.length := by
  have := dep_le _ ((opsN l).drop i) (Nat.le_refl _)
  rw [List.length_drop, ops_len] at this
  omega
theorem r_depth_r (l : List NodD) (hl : l.length ≤ 1000000) : ∀ (n i : Nat), i < l.length → WholeAt (opsN l) i → regimenref15_Depth_r n (l, (i : Int), ()) = some ((dep ((opsN l).drop i) : Nat) : Int) ∨ (regimenref15_Depth_r n (l, (i : Int), ()) = none ∧ n ≤ l.length - i)
  | 0, i, hi, hw => .inr ⟨rfl, by omega⟩
  | n + 1, i, hi, hw => by
    unfold regimenref15_Depth_r
    dsimp only
    rw [r_below l i hl hi hw, bnd_mk]
    obtain ⟨k, hk⟩ := hw
    have inl : ∀ {j k1 : Nat}, walk ((opsN l).drop j) 1 = some k1 → j < l.length := fun {j k1} h => by
      by_cases hj : j < l.length
      · exact hj
      · rw [ops_end l (by omega)] at h; cases h
    rcases whole_kids l hi hk with ha | ⟨ha, k1, h1⟩ | ⟨ha, k1, k2, h1, h2, h3⟩
    · left
      rw [(bel_0 l hi ha).1, (bel_0 l hi ha).2, loopP_done rfl]; rfl
    · rw [(bel_1 l hi ha).1, (bel_1 l hi ha).2]
      rcases r_depth_r l hl n (i + 1) (inl h1) ⟨k1, h1⟩ with e | ⟨e, e2⟩
      · left
        have hd := dep_at l (i + 1)
        rw [loopP_step (s' := (((dep ((opsN l).drop (i + 1)) : Nat) : Int), 1, ())) (by
          dsimp only
          rw [show decide ((0 : Int) < (([i + 1].map fun j : Nat => (j : Int)).length : Int)) = true from rfl, cnd_t, show ati ([i + 1].map fun j : Nat => (j : Int)) 0 = some ((i + 1 : Nat) : Int) from rfl, bnd_mk, e, bnd_mk]
          by_cases hz : ((dep ((opsN l).drop (i + 1)) : Nat) : Int) > 0
          · rw [decide_eq_true hz]; rfl
          · rw [decide_eq_false hz, show ((dep ((opsN l).drop (i + 1)) : Nat) : Int) = 0 by omega]; rfl), loopP_done rfl, bnd_mk, wr_id (by dsimp only; omega) (by dsimp only; omega)]
        rfl
      · right
        refine ⟨?_, by omega⟩
        rw [loopP_none (by
          dsimp only
          rw [show decide ((0 : Int) < (([i + 1].map fun j : Nat => (j : Int)).length : Int)) = true from rfl, cnd_t, show ati ([i + 1].map fun j : Nat => (j : Int)) 0 = some ((i + 1 : Nat) : Int) from rfl, bnd_mk, e]; rfl)]
        rfl
    · rw [(bel_2 l hi ha h1).1, (bel_2 l hi ha h1).2]
      rcases r_depth_r l hl n (i + 1) (inl h1) ⟨k1, h1⟩ with e | ⟨e, e2⟩
      · have hd := dep_at l (i + 1)
        have s1 : ∀ (f : Int × Int × Unit → Option ((Int × Int × Unit) ⊕ (Int × Unit))) (v : Int), f (0, 0, ()) = some (.inl (v, 1, ())) → loopP f (0, 0, ()) = loopP f (v, 1, ()) := fun f v h => loopP_step h
        rw [s1 _ ((dep ((opsN l).drop (i + 1)) : Nat) : Int) (by
          dsimp only
          rw [show decide ((0 : Int) < (([i + 1, i + 1 + k1].map fun j : Nat => (j : Int)).length : Int)) = true from rfl, cnd_t, show ati ([i + 1, i + 1 + k1].map fun j : Nat => (j : Int)) 0 = some ((i + 1 : Nat) : Int) from rfl, bnd_mk, e, bnd_mk]
          by_cases hz : ((dep ((opsN l).drop (i + 1)) : Nat) : Int) > 0
          · rw [decide_eq_true hz]; rfl
          · rw [decide_eq_false hz, show ((dep ((opsN l).drop (i + 1)) : Nat) : Int) = 0 by omega]; rfl)]
        rcases r_depth_r l hl n (i + 1 + k1) (inl h2) ⟨k2, h2⟩ with g | ⟨g, g2⟩
        · left
          have hd2 := dep_at l (i + 1 + k1)
          rw [loopP_step (s' := (((max (dep ((opsN l).drop (i + 1))) (dep ((opsN l).drop (i + 1 + k1))) : Nat) : Int), 2, ())) (by
            dsimp only
            rw [show decide ((1 : Int) < (([i + 1, i + 1 + k1].map fun j : Nat => (j : Int)).length : Int)) = true from rfl, cnd_t, show ati ([i + 1, i + 1 + k1].map fun j : Nat => (j : Int)) 1 = some ((i + 1 + k1 : Nat) : Int) from rfl, bnd_mk, g, bnd_mk]
            by_cases hz : ((dep ((opsN l).drop (i + 1 + k1)) : Nat) : Int) > ((dep ((opsN l).drop (i + 1)) : Nat) : Int)
            · rw [decide_eq_true hz, show max (dep ((opsN l).drop (i + 1))) (dep ((opsN l).drop (i + 1 + k1))) = dep ((opsN l).drop (i + 1 + k1)) by omega]; rfl
            · rw [decide_eq_false hz, show max (dep ((opsN l).drop (i + 1))) (dep ((opsN l).drop (i + 1 + k1))) = dep ((opsN l).drop (i + 1)) by omega]; rfl), loopP_done rfl, bnd_mk, wr_id (by dsimp only; omega) (by dsimp only; omega)]
          rfl
        · right
          refine ⟨?_, by omega⟩
          rw [loopP_none (by
            dsimp only
            rw [show decide ((1 : Int) < (([i + 1, i + 1 + k1].map fun j : Nat => (j : Int)).length : Int)) = true from rfl, cnd_t, show ati ([i + 1, i + 1 + k1].map fun j : Nat => (j : Int)) 1 = some ((i + 1 + k1 : Nat) : Int) from rfl, bnd_mk, g]; rfl)]
          rfl
      · right
        refine ⟨?_, by omega⟩
        rw [loopP_none (by
          dsimp only
          rw [show decide ((0 : Int) < (([i + 1, i + 1 + k1].map fun j : Nat => (j : Int)).length : Int)) = true from rfl, cnd_t, show ati ([i + 1, i + 1 + k1].map fun j : Nat => (j : Int)) 0 = some ((i + 1 : Nat) : Int) from rfl, bnd_mk, e]; rfl)]
        rfl
theorem r_depth (l : List NodD) (i : Nat) (hl : l.length ≤ 1000000) (hi : i < l.length) (hw : WholeAt (opsN l) i) : regimenref15_Depth (l, (i : Int), ()) = some ((dep ((opsN l).drop i) : Nat) : Int) := by
  unfold regimenref15_Depth
  refine recP_is (fun n y hy => ?_) (l.length + 1) ?_
  · rcases r_depth_r l hl n i hi hw with h | ⟨h, _⟩
    · rw [h] at hy; exact (Option.some.inj hy).symm
    · rw [h] at hy; cases hy
  · rcases r_depth_r l hl (l.length + 1) i hi hw with h | ⟨_, h⟩
    · exact h
    · omega
def WholeL (l : List NodD) : Prop := walk (opsN l) 1 = some l.length ∧ l.length ≤ 64
theorem resE_whole (l : List NodD) : resE (opsN l) 0 1 = (l.length : Int) ↔ walk (opsN l) 1 = some l.length := by
  unfold resE
  rw [List.drop_zero]
  cases walk (opsN l) 1 with
  | none => dsimp only; exact ⟨fun h => by omega, fun h => by cases h⟩
  | some k => dsimp only; rw [Nat.zero_add]; exact ⟨fun h => by congr 1; omega, fun h => by cases h; rfl⟩
theorem p_whole (l : List NodD) (hl : l.length ≤ 1000000) : tree_whole (l, ()) = some (decide (WholeL l)) := by
  unfold tree_whole
  dsimp only
  rw [show ((0 : Int)) = ((0 : Nat) : Int) from rfl, p_end l 0 hl (by omega)]
  by_cases h0 : 0 < l.length
  · by_cases h1 : l.length ≤ 64
    · rw [decide_eq_true (by omega : (l.length : Int) > ((0 : Nat) : Int)), decide_eq_true (by omega : (l.length : Int) ≤ 64)]
      exact congrArg some (decide_eq_decide.2 ⟨fun h => ⟨(resE_whole l).1 h, h1⟩, fun h => (resE_whole l).2 h.1⟩)
    · rw [decide_eq_true (by omega : (l.length : Int) > ((0 : Nat) : Int)), decide_eq_false (by omega : ¬ (l.length : Int) ≤ 64), decide_eq_false (fun h : WholeL l => h1 h.2)]; rfl
  · rw [decide_eq_false (by omega : ¬ (l.length : Int) > ((0 : Nat) : Int)), decide_eq_false (fun h : WholeL l => by
      have := walk_pos _ _ _ h.1
      omega)]; rfl
theorem r_whole15 (l : List NodD) (hl : l.length ≤ 1000000) : regimenref15_Whole (l, ()) = some (decide (WholeL l)) := by
  unfold regimenref15_Whole
  dsimp only
  rw [show ((0 : Int)) = ((0 : Nat) : Int) from rfl, r_end l 0 hl (by omega)]
  by_cases h1 : l.length ≤ 64
  · rw [decide_eq_true (by omega : (l.length : Int) ≤ 64)]
    exact congrArg some (decide_eq_decide.2 ⟨fun h => ⟨(resE_whole l).1 h, h1⟩, fun h => (resE_whole l).2 h.1⟩)
  · rw [decide_eq_false (by omega : ¬ (l.length : Int) ≤ 64), decide_eq_false (fun h : WholeL l => h1 h.2)]; rfl
end Go.Proofs.Ytggmomkohmcciaa.F
