/- Digits: less, compared, times. -/
import Derived.Test.YtggmomkohmcciaaPAFlatThen
set_option linter.unusedVariables false
set_option linter.unusedSimpArgs false
namespace Go.Proofs.Ytggmomkohmcciaa.F
open Go.VX

theorem v_split (a : List Int) (i : Nat) : ∀ b : List Int, V a - V b = V (a.take i) - V (b.take i) + 65536 ^ i * (V (a.drop i) - V (b.drop i)) := by
  induction i generalizing a with
  | zero => intro b; simp [V]
  | succ i ih =>
    intro b
    cases a with
    | nil =>
      cases b with
      | nil => simp [V]
      | cons y b =>
        have := ih [] b
        simp only [List.take_nil, List.drop_nil, V, List.take_succ_cons, List.drop_succ_cons] at this ⊢
        rw [Int.pow_succ]
        grind
    | cons x a =>
      cases b with
      | nil =>
        have := ih a []
        simp only [List.take_nil, List.drop_nil, V, List.take_succ_cons, List.drop_succ_cons] at this ⊢
        rw [Int.pow_succ]
        grind
      | cons y b =>
        have := ih a b
        simp only [V, List.take_succ_cons, List.drop_succ_cons] at this ⊢
        rw [Int.pow_succ]
        grind
theorem dig_take {a : List Int} (h : Dig a) (i : Nat) : Dig (a.take i) := fun d hd => h d (List.mem_of_mem_take hd)
theorem v_take_lt {a : List Int} (h : Dig a) (i : Nat) : V (a.take i) < 65536 ^ i := by
  have h1 := v_lt (dig_take h i)
  have h2 : (65536 : Int) ^ (a.take i).length ≤ 65536 ^ i := by
    have : (a.take i).length ≤ i := by simp; omega
    obtain ⟨k, hk⟩ : ∃ k, i = (a.take i).length + k := ⟨i - (a.take i).length, by omega⟩
    generalize (a.take i).length = m at *
    rw [hk, Int.pow_add]
    have h3 := pw_pos m
    have h4 := pw_pos k
    generalize (65536 : Int) ^ m = P at *
    generalize (65536 : Int) ^ k = Q at *
    have : P * 1 ≤ P * Q := Int.mul_le_mul_of_nonneg_left (by omega) (by omega)
    rw [Int.mul_one] at this
    exact this
  exact Int.lt_of_lt_of_le h1 h2
theorem v_less {a b : List Int} (ha : Dig a) (hb : Dig b) {i : Nat} (hi : nth 0 a i < nth 0 b i) (h : V (a.drop (i + 1)) = V (b.drop (i + 1))) : V a < V b := by
  have h1 := v_split a i b
  rw [v_drop a i, v_drop b i, h] at h1
  have h2 := v_take_lt ha i
  have h3 := v_nonneg (dig_take hb i)
  have hP := pw_pos i
  generalize (65536 : Int) ^ i = P at *
  have h4 : P * (nth 0 a i + 65536 * V (b.drop (i + 1)) - (nth 0 b i + 65536 * V (b.drop (i + 1)))) ≤ P * (-1) := Int.mul_le_mul_of_nonneg_left (by omega) (by omega)
  omega

end Go.Proofs.Ytggmomkohmcciaa.F
