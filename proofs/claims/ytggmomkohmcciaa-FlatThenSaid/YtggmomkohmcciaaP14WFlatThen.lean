/- Lengths: how many steps a length is, within so many. -/
import Derived.Test.YtggmomkohmcciaaP15DFlatThen
set_option linter.unusedVariables false
set_option linter.unusedSimpArgs false
namespace Go.Proofs.Ytggmomkohmcciaa.F
open Go.VX
open Classical

def lenV (u n of' ep : Int) : Int := if u = 0 then n else if u = 1 then n * ep else of' * n / 100
def WithinS (u n of' ep : Int) : Int := if of' < lenV u n of' ep then of' else lenV u n of' ep
theorem lenV_range (u n of' ep : Int) (h : LenOkN u n) (o0 : 0 ≤ of') (o1 : of' ≤ 1048576) (e0 : 0 ≤ ep) (e1 : ep ≤ 1000000) : 0 ≤ lenV u n of' ep ∧ lenV u n of' ep ≤ 1099511627776000000 := by
  unfold LenOkN at h
  unfold lenV
  split
  · omega
  · split
    · have h1 : 0 ≤ n * ep := Int.mul_nonneg h.1 e0
      have h2 : n * ep ≤ 1099511627776 * 1000000 := Int.mul_le_mul h.2.1 e1 e0 (by omega)
      omega
    · have h1 : 0 ≤ of' * n := Int.mul_nonneg o0 h.1
      have h2 : of' * n ≤ 1048576 * 100 := Int.mul_le_mul o1 (by omega) h.1 (by omega)
      omega
theorem within_range (u n of' ep : Int) (h : LenOkN u n) (o0 : 0 ≤ of') (o1 : of' ≤ 1048576) (e0 : 0 ≤ ep) (e1 : ep ≤ 1000000) : 0 ≤ WithinS u n of' ep ∧ WithinS u n of' ep ≤ of' := by
  have := lenV_range u n of' ep h o0 o1 e0 e1
  unfold WithinS
  split <;> omega
theorem p_lencheck (u n : Int) (h : LenOkN u n) : length_Check ((u, n, ()), ()) = some 0 := by
  unfold LenOkN at h
  unfold length_Check length_within
  dsimp only
  by_cases h0 : u = 0
  · rw [decide_eq_true h0]
    simp only [bnd_mk, cnd_t]
    rw [decide_eq_true (by omega : n ≥ 0), decide_eq_true (by omega : n ≤ 1099511627776)]; rfl
  rw [decide_eq_false h0]
  by_cases h1 : u = 1
  · rw [decide_eq_true h1]
    simp only [bnd_mk, cnd_t, cnd_f]
    rw [decide_eq_true (by omega : n ≥ 0), decide_eq_true (by omega : n ≤ 1099511627776)]; rfl
  rw [decide_eq_false h1, decide_eq_true (by omega : u = 2)]
  simp only [bnd_mk, cnd_t, cnd_f]
  rw [decide_eq_true (by omega : n ≥ 0), decide_eq_true (by omega : n ≤ 100)]; rfl
theorem p_lenwithin (a lo hi : Int) (h : lo ≤ a ∧ a ≤ hi) : length_within (a, lo, hi, ()) = some true := by
  unfold length_within
  dsimp only
  rw [decide_eq_true (show a ≥ lo from h.1), decide_eq_true h.2]; rfl
theorem p_Within (u n of' ep : Int) (h : LenOkN u n) (o0 : 0 ≤ of') (o1 : of' ≤ 1048576) (e0 : 0 ≤ ep) (e1 : ep ≤ 1000000) : length_Within ((u, n, ()), of', ep, ()) = some (WithinS u n of' ep) := by
  have hr := lenV_range u n of' ep h o0 o1 e0 e1
  have h' := h
  unfold LenOkN at h'
  have hS : length_Steps ((u, n, ()), of', ep, ()) = some (if lenV u n of' ep > 1099511627776 then (0, 4, ()) else (lenV u n of' ep, 0, ())) := by
    unfold length_Steps
    dsimp only
    rw [p_lencheck u n h, p_lenwithin of' 0 1048576 ⟨o0, o1⟩, p_lenwithin ep 0 1048576 ⟨e0, by omega⟩]
    simp only [bnd_mk, decide_true, Bool.not_true, Bool.not_false, cnd_t, cnd_f]
    have hj : ∀ {β : Type} (K : Int × Unit → Option β), (bnd (cnd (decide (u = 0)) (some (n, ())) (bnd (cnd (decide (u = 1)) (some (wr .i64 (n * ep), ())) (bnd (cnd (decide (u = 2)) (some (wr .i64 (Int.tdiv (wr .i64 (of' * n)) 100), ())) (some (of', ()))) fun j8 => some (j8.1, ()))) fun j7 => some (j7.1, ()))) K) = K (lenV u n of' ep, ()) := by
      intro β K
      unfold lenV at hr ⊢
      by_cases h0 : u = 0
      · rw [decide_eq_true h0, if_pos h0]; rfl
      rw [decide_eq_false h0, if_neg h0]
      rw [if_neg h0] at hr
      by_cases h1 : u = 1
      · rw [if_pos h1] at hr
        rw [decide_eq_true h1, if_pos h1, wr_id (x := n * ep) (by omega) (by omega)]; rfl
      · rw [if_neg h1] at hr
        have g1 : 0 ≤ of' * n := Int.mul_nonneg o0 h'.1
        have g2 : of' * n ≤ 1048576 * 100 := Int.mul_le_mul o1 (by omega) h'.1 (by omega)
        rw [decide_eq_false h1, if_neg h1, decide_eq_true (by omega : u = 2), wr_id (x := of' * n) (by omega) (by omega), Int.tdiv_eq_ediv_of_nonneg g1, wr_id (x := of' * n / 100) (by omega) (by omega)]; rfl
    rw [hj]
    dsimp only
    by_cases hb : lenV u n of' ep > 1099511627776
    · rw [decide_eq_true hb, if_pos hb]; rfl
    · rw [decide_eq_false hb, if_neg hb]; rfl
  unfold length_Within
  dsimp only
  rw [hS, bnd_mk]
  unfold WithinS
  by_cases hb : lenV u n of' ep > 1099511627776
  · rw [if_pos hb, if_pos (by omega)]; rfl
  · rw [if_neg hb]
    show some (minL (lenV u n of' ep) [of']) = _
    simp only [minL]
end Go.Proofs.Ytggmomkohmcciaa.F
