/- The law CurveAt, in plain Lean: which curves there may be, any one's value, its bounds, any kind's word. -/
import Derived.Test.YtldfbdifpmgegaaPUCurveAt
set_option linter.unusedVariables false
set_option linter.unusedSimpArgs false
namespace Go.Proofs.Ytldfbdifpmgegaa.F
open Go.VX
open Classical
theorem awake09 : regimenlaw09_awake () = some true := by
  unfold regimenlaw09_awake
  rw [p_at2 (2, 0, 4294967296, 0, ()) 1 3 (by unfold CurveOk; dsimp only; omega) (by omega) (by omega) (by omega) (by omega) rfl, p_at4 (4, 4294967296, 0, 2147483648, ()) 2 9 (by unfold CurveOk; dsimp only; omega) (by omega) (by omega) (by omega) (by omega) rfl]
  rfl
theorem p_at_no (c : CurveD) (i n : Int) (hn : ¬ (CurveOk c ∧ 1 ≤ n ∧ n ≤ 1048576 ∧ 0 ≤ i ∧ i < n)) : curve_At (c, i, n, ()) = some (0, 1, ()) := by
  unfold curve_At curve_within
  dsimp only
  rw [p_curve, bnd_mk]
  by_cases hc : CurveOk c
  · rw [if_pos hc]
    by_cases h1 : 1 ≤ n
    · by_cases h2 : n ≤ 1048576
      · rw [decide_eq_true (by omega : n ≥ 1), decide_eq_true (by omega : n ≤ 1048576), wr_id (x := n - 1) (by omega) (by omega)]
        by_cases h3 : 0 ≤ i
        · rw [decide_eq_true (by omega : i ≥ 0), decide_eq_false (fun h => hn ⟨hc, h1, h2, h3, by omega⟩ : ¬ i ≤ n - 1)]
          rfl
        · rw [decide_eq_false (by omega : ¬ i ≥ 0)]
          rfl
      · rw [decide_eq_true (by omega : n ≥ 1), decide_eq_false h2]
        rfl
    · rw [decide_eq_false (by omega : ¬ n ≥ 1)]
      rfl
  · rw [if_neg hc]
    rfl
def BoundsS (c : CurveD) : Int × Int × Unit := if c.1 = 1 ∨ c.2.1 = c.2.2.1 then (c.2.1, c.2.1, ()) else if c.2.1 < c.2.2.1 then (c.2.1, c.2.2.1, ()) else (c.2.2.1, c.2.1, ())
theorem p_bounds (c : CurveD) : curve_Bounds (c, ()) = some (if CurveOk c then BoundsS c else (0, 0, ())) := by
  unfold curve_Bounds BoundsS
  dsimp only
  rw [p_curve, bnd_mk]
  by_cases hc : CurveOk c
  · rw [if_pos hc, if_pos hc]
    by_cases h1 : c.1 = 1
    · rw [decide_eq_true h1, if_pos (.inl h1)]; rfl
    · rw [decide_eq_false h1]
      simp only [minL, maxL, cnd_f, decide_true, Bool.not_true]
      by_cases h2 : c.2.1 = c.2.2.1
      · simp [h1, h2]
      · by_cases h3 : c.2.1 < c.2.2.1
        · simp [h1, h2, h3, show ¬ c.2.2.1 < c.2.1 by omega]
        · simp [h1, h2, h3, show c.2.2.1 < c.2.1 by omega]
  · rw [if_neg hc, if_neg hc]; rfl
theorem r_bounds (c : CurveD) : regimenref09_Bounds (c, ()) = some (BoundsS c) := by
  unfold regimenref09_Bounds BoundsS
  dsimp only
  by_cases h1 : c.1 = 1
  · rw [decide_eq_true h1, if_pos (.inl h1)]; rfl
  · rw [decide_eq_false h1]
    by_cases h2 : c.2.1 = c.2.2.1
    · rw [decide_eq_true h2, if_pos (.inr h2)]; rfl
    · rw [decide_eq_false h2, if_neg (by omega)]
      by_cases h3 : c.2.1 < c.2.2.1
      · rw [decide_eq_true h3, if_pos h3]; rfl
      · rw [decide_eq_false h3, if_neg h3]; rfl
def WordS (k : Int) : List Int := if 0 ≤ k ∧ k ≤ 5 then nth [] [[], [99, 111, 110, 115, 116], [108, 105, 110, 101], [112, 111, 108, 121], [101, 120, 112], [119, 97, 118, 101]] k.toNat else []
theorem p_word (k : Int) : curve_Word (k, ()) = some (WordS k) := by
  unfold curve_Word WordS
  dsimp only
  by_cases h0 : k < 0
  · rw [decide_eq_true h0, if_neg (by omega)]; rfl
  by_cases h1 : k ≥ 6
  · rw [decide_eq_false h0, decide_eq_true h1, if_neg (by omega)]; rfl
  · obtain ⟨n, rfl⟩ : ∃ n : Nat, k = n := ⟨k.toNat, by omega⟩
    rw [decide_eq_false h0, decide_eq_false h1, if_pos (by omega)]
    simp only [bnd_mk, cnd_t, cnd_f, Bool.not_false, inR_ok (by omega : n < 6)]
    rw [ati_d [] (by simp; omega)]
    rfl
theorem l_word (k : Int) : bnd (cnd (decide (k ≥ 0)) (some (decide (k ≤ 5))) (some false)) (fun j4 => (cnd j4 (bnd (ati [[], [99, 111, 110, 115, 116], [108, 105, 110, 101], [112, 111, 108, 121], [101, 120, 112], [119, 97, 118, 101]] k) fun v6 => some (v6, ())) (some ([], ())) : Option (List Int × Unit))) = some (WordS k, ()) := by
  unfold WordS
  by_cases h0 : k < 0
  · rw [decide_eq_false (by omega : ¬ k ≥ 0), if_neg (by omega)]; rfl
  by_cases h1 : k ≥ 6
  · rw [decide_eq_true (by omega : k ≥ 0), decide_eq_false (by omega : ¬ k ≤ 5), if_neg (by omega)]; rfl
  · obtain ⟨n, rfl⟩ : ∃ n : Nat, k = n := ⟨k.toNat, by omega⟩
    rw [decide_eq_true (by omega : (n : Int) ≥ 0), decide_eq_true (by omega : (n : Int) ≤ 5), if_pos (by omega)]
    simp only [bnd_mk, cnd_t]
    rw [ati_d [] (by simp; omega)]
    rfl
theorem bnd_assoc {α β γ : Type} (x : Option α) (f : α → Option β) (g : β → Option γ) : bnd x (fun a => bnd (f a) g) = bnd (bnd x f) g := by cases x <;> rfl
theorem pure_CurveAt (x : Ty.D (.tu T75 T77)) (h : Ty.wf (.tu T75 T77) x) : regimenlaw09_CurveAt x = some true := by
  obtain ⟨c, i, n, _⟩ := x
  change CurveD at c
  change Int at i
  change Int at n
  unfold regimenlaw09_CurveAt
  dsimp only
  rw [p_bounds, r_curve, r_bounds, p_curve, p_word, awake09]
  obtain ⟨u, e, he, h1, h2⟩ : ∃ u e, curve_At (c, i, n, ()) = some (u, e, ()) ∧ ((CurveOk c ∧ 1 ≤ n ∧ n ≤ 1048576 ∧ 0 ≤ i ∧ i < n) → u = CurveS c i n ∧ e = 0) ∧ (¬ (CurveOk c ∧ 1 ≤ n ∧ n ≤ 1048576 ∧ 0 ≤ i ∧ i < n) → u = 0 ∧ e = 1) := by
    by_cases hh : CurveOk c ∧ 1 ≤ n ∧ n ≤ 1048576 ∧ 0 ≤ i ∧ i < n
    · exact ⟨_, _, p_atS c i n hh.1 hh.2.1 hh.2.2.1 hh.2.2.2.1 hh.2.2.2.2, fun _ => ⟨rfl, rfl⟩, fun h => (h hh).elim⟩
    · exact ⟨_, _, p_at_no c i n hh, fun h => (hh h).elim, fun _ => ⟨rfl, rfl⟩⟩
  rw [he, bnd_mk, bnd_mk, bnd_mk, bnd_assoc, l_word, bnd_mk, bnd_mk]
  by_cases hc : CurveOk c
  · rw [if_pos hc, if_pos hc, decide_eq_true hc]
    simp only [decide_true, Bool.not_true, Bool.not_false, bnd_mk, cnd_t, cnd_f, decide_eq_true rfl, Bool.true_eq, Bool.false_eq_true, decide_false, show ((0 : Int) = 1) = False by simp]
    by_cases k1 : n < 1
    · obtain ⟨rfl, rfl⟩ := h2 (by omega)
      rw [decide_eq_true k1]; rfl
    by_cases k2 : n > 1048576
    · obtain ⟨rfl, rfl⟩ := h2 (by omega)
      rw [decide_eq_false k1, decide_eq_true k2]; rfl
    by_cases k3 : i < 0
    · obtain ⟨rfl, rfl⟩ := h2 (by omega)
      rw [decide_eq_false k1, decide_eq_false k2, decide_eq_true k3]; rfl
    by_cases k4 : i ≥ n
    · obtain ⟨rfl, rfl⟩ := h2 (by omega)
      rw [decide_eq_false k1, decide_eq_false k2, decide_eq_false k3, decide_eq_true k4]; rfl
    obtain ⟨rfl, rfl⟩ := h1 ⟨hc, by omega, by omega, by omega, by omega⟩
    rw [decide_eq_false k1, decide_eq_false k2, decide_eq_false k3, decide_eq_false k4, r_atS c i n hc (by omega) (by omega) (by omega) (by omega)]
    simp only [decide_true, bnd_mk, cnd_t, cnd_f, Bool.not_true, Bool.not_false]
  · obtain ⟨rfl, rfl⟩ := h2 (fun hh => hc hh.1)
    rw [if_neg hc, if_neg hc, decide_eq_false hc]
    simp only [decide_true, Bool.not_true, Bool.not_false, bnd_mk, cnd_t, cnd_f, Bool.true_eq, Bool.false_eq_true, decide_false, show ((1 : Int) = 0) = False by simp]
end Go.Proofs.Ytldfbdifpmgegaa.F
