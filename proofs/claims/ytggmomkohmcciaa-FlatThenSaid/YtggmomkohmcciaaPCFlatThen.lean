/- Digits: times, powers of two, the lowest bits, odd. -/
import Derived.Test.YtggmomkohmcciaaPBFlatThen
set_option linter.unusedVariables false
set_option linter.unusedSimpArgs false
namespace Go.Proofs.Ytggmomkohmcciaa.F
open Go.VX

theorem nth_set_eq {a : List Int} {i : Nat} (h : i < a.length) (d : Int) : nth 0 (a.set i d) i = d := by
  simp [nth, List.getD, h]
theorem nth_set_ne {a : List Int} {i j : Nat} (h : i ≠ j) (d : Int) : nth 0 (a.set i d) j = nth 0 a j := by
  simp [nth, List.getD, h]
theorem v_set : ∀ (a : List Int) (i : Nat) (d : Int), i < a.length → V (a.set i d) = V a + 65536 ^ i * (d - nth 0 a i)
  | [], i, d, h => by simp at h
  | x :: a, 0, d, h => by simp [V, nth, List.getD]; omega
  | x :: a, i + 1, d, h => by
    have := v_set a i d (by simp at h; omega)
    have e : nth 0 (x :: a) (i + 1) = nth 0 a i := by simp [nth, List.getD]
    simp only [List.set_cons_succ, V, this, e]
    rw [Int.pow_succ]
    grind
theorem dig_set {a : List Int} (h : Dig a) (i : Nat) {d : Int} (hd : 0 ≤ d ∧ d < 65536) : Dig (a.set i d) := fun x hx => by
  rcases List.mem_or_eq_of_mem_set hx with h1 | rfl
  · exact h x h1
  · exact hd
theorem v_take_succ (a : List Int) (i : Nat) : V (a.take (i + 1)) = V (a.take i) + 65536 ^ i * nth 0 a i := by
  by_cases hi : i < a.length
  · rw [List.take_succ_eq_append_getElem hi, v_app, List.length_take, Nat.min_eq_left (by omega)]
    simp [V, nth, List.getD, hi]
  · rw [List.take_of_length_le (by omega), List.take_of_length_le (by omega)]
    simp [nth, List.getD, hi]
theorem v_rep (n : Nat) : V (List.replicate n 0) = 0 := by
  induction n with
  | zero => rfl
  | succ n ih => simp [List.replicate_succ, V, ih]

def T (a : List Int) (i m : Nat) : Int := V ((a.drop i).take m)
theorem t_succ (a : List Int) (i m : Nat) : T a i (m + 1) = nth 0 a i + 65536 * T a (i + 1) m := by
  unfold T
  by_cases hi : i < a.length
  · rw [List.drop_eq_getElem_cons hi, List.take_succ_cons]
    simp only [V]
    congr 1
    simp [nth, List.getD, hi]
  · rw [List.drop_of_length_le (by omega), List.drop_of_length_le (by omega)]
    simp [V, nth, List.getD, hi]
theorem t_zero (a : List Int) (i : Nat) : T a i 0 = 0 := by simp [T, V]
theorem t_nonneg {a : List Int} (h : Dig a) (i m : Nat) : 0 ≤ T a i m := v_nonneg (dig_take (dig_drop h i) m)
theorem t_lt {a : List Int} (h : Dig a) (i m : Nat) : T a i m < 65536 ^ m := v_take_lt (dig_drop h i) m
theorem t_mod (a : List Int) (ha : Dig a) : T a 0 4 = V a % 18446744073709551616 := by
  have h1 := v_split a 4 []
  have h2 := t_nonneg ha 0 4
  have h3 := t_lt ha 0 4
  simp only [V, List.take_nil, List.drop_nil] at h1
  rw [show T a 0 4 = V (a.take 4) by simp [T]] at *
  rw [show (65536 : Int) ^ 4 = 18446744073709551616 from rfl] at *
  omega
end Go.Proofs.Ytggmomkohmcciaa.F
