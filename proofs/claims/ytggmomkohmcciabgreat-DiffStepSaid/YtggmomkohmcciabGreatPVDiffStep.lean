/- Curves: which ones may not be asked, bounds, words, the first and the last value. -/
import Derived.Test.YtggmomkohmcciabGreatPUDiffStep
set_option linter.unusedVariables false
set_option linter.unusedSimpArgs false
namespace Go.Proofs.YtggmomkohmcciabGreat.F
open Go.VX
open Classical

theorem p_at_no (c : CurveD) (i n : Int) (hn : ¬ (CurveOk c ∧ 1 ≤ n ∧ n ≤ 1048576 ∧ 0 ≤ i ∧ i < n)) : curve_At (c, i, n, ()) = some (0, 1, ()) := by
  unfold curve_At curve_within
  dsimp only
  rw [p_curve, bnd_mk]
  by_cases hc : CurveOk c
  · rw [if_pos hc]
    by_cases h1 : 1 ≤ n
    · by_cases h2 : n ≤ 1048576
      · rw [decide_eq_true (by omega : n ≥ 1), decide_eq_true (by omega : n ≤ 1048576), wr_id (x := n - 1) (by omega) (by omega)]
        by_cases h3 : 0 ≤ i
        · rw [decide_eq_true (by omega : i ≥ 0), decide_eq_false (fun h => hn ⟨hc, h1, h2, h3, by omega⟩ : ¬ i ≤ n - 1)]
          rfl
        · rw [decide_eq_false (by omega : ¬ i ≥ 0)]
          rfl
      · rw [decide_eq_true (by omega : n ≥ 1), decide_eq_false h2]
        rfl
    · rw [decide_eq_false (by omega : ¬ n ≥ 1)]
      rfl
  · rw [if_neg hc]
    rfl
def BoundsS (c : CurveD) : Int × Int × Unit := if c.1 = 1 ∨ c.2.1 = c.2.2.1 then (c.2.1, c.2.1, ()) else if c.2.1 < c.2.2.1 then (c.2.1, c.2.2.1, ()) else (c.2.2.1, c.2.1, ())
theorem lerp_zero (a b : Int) : LerpS a b 0 = a := by
  unfold LerpS
  rw [Int.mul_zero, Int.mul_zero, show Rd 0 4294967296 = 0 from rfl]
  split <;> omega
theorem lerp_in (a b t : Int) (t0 : 0 ≤ t) (t1 : t ≤ 4294967296) : (a ≤ b → a ≤ LerpS a b t ∧ LerpS a b t ≤ b) ∧ (b ≤ a → b ≤ LerpS a b t ∧ LerpS a b t ≤ a) := by
  unfold LerpS
  by_cases h : a ≤ b
  · rw [if_pos h]
    have h1 := rd_nonneg (d := 4294967296) (by omega) (Int.mul_nonneg (by omega : 0 ≤ b - a) t0)
    have h2 := rd_bound (x := b - a) (d := 4294967296) (by omega) (Int.mul_le_mul_of_nonneg_left t1 (by omega : 0 ≤ b - a))
    omega
  · rw [if_neg h]
    have h1 := rd_nonneg (d := 4294967296) (by omega) (Int.mul_nonneg (by omega : 0 ≤ a - b) t0)
    have h2 := rd_bound (x := a - b) (d := 4294967296) (by omega) (Int.mul_le_mul_of_nonneg_left t1 (by omega : 0 ≤ a - b))
    omega
theorem tm_le {a p : Int} (a0 : 0 ≤ a) (p0 : 0 ≤ p) (p1 : p ≤ 4294967296) : 0 ≤ tm a p ∧ tm a p ≤ a :=
  ⟨rd_nonneg (by omega) (Int.mul_nonneg a0 p0), rd_bound (by omega) (Int.mul_le_mul_of_nonneg_left p1 a0)⟩
theorem curveS_in (c : CurveD) (i n : Int) (hc : CurveOk c) (n0 : 1 ≤ n) (i0 : 0 ≤ i) (i1 : i < n) : (BoundsS c).1 ≤ CurveS c i n ∧ CurveS c i n ≤ (BoundsS c).2.1 := by
  have hc' := hc
  unfold CurveOk at hc'
  have ht := shareS_range i n n0 i0 i1
  have key : (c.1 = 1 ∧ CurveS c i n = c.2.1) ∨ (c.2.1 ≤ c.2.2.1 → c.2.1 ≤ CurveS c i n ∧ CurveS c i n ≤ c.2.2.1) ∧ (c.2.2.1 ≤ c.2.1 → c.2.2.1 ≤ CurveS c i n ∧ CurveS c i n ≤ c.2.1) := by
    unfold CurveS
    by_cases h2 : c.1 = 2
    · rw [if_pos h2]; exact .inr (lerp_in _ _ _ ht.1 ht.2)
    by_cases h3 : c.1 = 3
    · rw [if_neg h2, if_pos h3]
      have hw := powS_mono c.2.2.2.1 (x := 4294967296 - ShareS i n) (by omega) (Int.le_refl _) (by omega)
      exact .inr (lerp_in _ _ _ hw.1 hw.2.2).symm
    by_cases h4 : c.1 = 4
    · rw [if_neg h2, if_neg h3, if_pos h4]
      have hw := powS_mono i (x := c.2.2.2.1) (by omega) (Int.le_refl _) (by omega)
      have hm := tm_le (a := c.2.1) (by omega) hw.1 hw.2.2
      right
      split <;> omega
    by_cases h5 : c.1 = 5
    · rw [if_neg h2, if_neg h3, if_neg h4, if_pos h5]
      have hw := waveS_b (ShareS i n) ht.1 ht.2
      exact .inr (lerp_in _ _ _ hw.1 hw.2).symm
    · rw [if_neg h2, if_neg h3, if_neg h4, if_neg h5]; exact .inl ⟨by omega, rfl⟩
  unfold BoundsS
  by_cases h1 : c.1 = 1 ∨ c.2.1 = c.2.2.1
  · rw [if_pos h1]
    dsimp only
    rcases key with ⟨_, k⟩ | k
    · omega
    · rcases h1 with h1 | h1
      · have k2 := k.2 (by omega)
        unfold CurveS at k2 ⊢
        rw [if_neg (by omega), if_neg (by omega), if_neg (by omega), if_neg (by omega)]
        omega
      · have k1 := k.1 (by omega)
        omega
  · rw [if_neg h1]
    rcases key with ⟨k, _⟩ | k
    · omega
    · by_cases h2 : c.2.1 < c.2.2.1
      · rw [if_pos h2]
        exact k.1 (by omega)
      · rw [if_neg h2]
        exact k.2 (by omega)
theorem share_first (n : Int) (n0 : 1 ≤ n) : ShareS 0 n = 0 := by
  unfold ShareS
  split
  · rfl
  · have := rd_exact (x := 0) (d := n - 1) (by omega)
    rwa [Int.zero_mul] at this
theorem share_last (n : Int) (n0 : 2 ≤ n) : ShareS (n - 1) n = 4294967296 := by
  unfold ShareS
  rw [if_neg (by omega), Int.mul_comm]
  exact rd_exact (by omega)
theorem powF_one : ∀ f n : Nat, powF f n 4294967296 4294967296 = 4294967296
  | 0, _ => rfl
  | f + 1, n => by
    simp only [powF]
    rw [show tm 4294967296 4294967296 = 4294967296 from rfl]
    split
    · rfl
    · split <;> exact powF_one f _
theorem tm_zero (r : Int) : tm r 0 = 0 := by unfold tm; rw [Int.mul_zero]; rfl
theorem powF_nil : ∀ (f n : Nat) (r : Int), 1 ≤ n → n < 2 ^ f → powF f n 0 r = 0
  | 0, n, r, h, k => by omega
  | f + 1, n, r, h, k => by
    simp only [powF]
    rw [if_neg (by omega), tm_zero, tm_zero]
    by_cases h1 : n = 1
    · subst h1
      exact powF_zero f 0 0
    · exact powF_nil f (n / 2) _ (by omega) (by rw [Nat.pow_succ] at k; omega)
theorem wave_zero : WaveS 0 = 4294967296 := by decide
theorem wave_one : WaveS 4294967296 = 0 := by decide
theorem curve_first (c : CurveD) (n : Int) (hc : CurveOk c) (n0 : 1 ≤ n) : CurveS c 0 n = c.2.1 := by
  have hc' := hc
  unfold CurveOk at hc'
  unfold CurveS
  rw [share_first n n0, wave_zero, lerp_zero, lerp_one]
  rw [show (4294967296 : Int) - 0 = 4294967296 from rfl]
  have e1 : PowS 4294967296 c.2.2.2.1 = 4294967296 := powF_one _ _
  have e2 : PowS c.2.2.2.1 0 = 4294967296 := powF_zero _ _ _
  rw [e1, e2, lerp_one]
  have e3 : tm c.2.1 4294967296 = c.2.1 := rd_exact (by omega)
  rw [e3]
  repeat' split
  all_goals omega
theorem curve_last (c : CurveD) (n : Int) (hc : CurveOk c) (n0 : 2 ≤ n) (h1 : c.1 ≠ 1) (h4 : c.1 ≠ 4) : CurveS c (n - 1) n = c.2.2.1 := by
  have hc' := hc
  unfold CurveOk at hc'
  unfold CurveS
  rw [share_last n n0, wave_one, lerp_one, lerp_zero]
  rw [show (4294967296 : Int) - 4294967296 = 0 from rfl]
  by_cases h2 : c.1 = 2
  · rw [if_pos h2]
  by_cases h3 : c.1 = 3
  · rw [if_neg h2, if_pos h3]
    have hk : c.2.2.2.1.toNat < 2 ^ 64 := Nat.lt_of_le_of_lt (by omega : c.2.2.2.1.toNat ≤ 16) (by decide)
    have : PowS 0 c.2.2.2.1 = 0 := powF_nil _ _ _ (by omega) hk
    rw [this, lerp_zero]
  · rw [if_neg h2, if_neg h3, if_neg h4, if_pos (by omega)]
end Go.Proofs.YtggmomkohmcciabGreat.F
