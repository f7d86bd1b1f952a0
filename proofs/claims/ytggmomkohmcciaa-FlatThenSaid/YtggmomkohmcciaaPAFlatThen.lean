/- Digits: what the reference reckons with, as numbers. -/
import Derived.Test.YtggmomkohmcciaaP0FlatThen
import Derived.Test.YtggmomkohmcciaaFFlatThen
set_option linter.unusedVariables false
set_option linter.unusedSimpArgs false
namespace Go.Proofs.Ytggmomkohmcciaa.F
open Go.VX

def Dig (l : List Int) : Prop := ∀ d ∈ l, 0 ≤ d ∧ d < 65536
def V : List Int → Int
  | [] => 0
  | d :: l => d + 65536 * V l
theorem dig_nil : Dig [] := fun d h => by cases h
theorem dig_cons {d : Int} {l : List Int} : Dig (d :: l) ↔ (0 ≤ d ∧ d < 65536) ∧ Dig l := by
  simp [Dig]
theorem dig_app {a b : List Int} : Dig (a ++ b) ↔ Dig a ∧ Dig b := by
  constructor
  · exact fun h => ⟨fun d hd => h d (List.mem_append_left _ hd), fun d hd => h d (List.mem_append_right _ hd)⟩
  · intro h d hd
    rcases List.mem_append.1 hd with h1 | h1
    · exact h.1 d h1
    · exact h.2 d h1
theorem dig_drop {a : List Int} (h : Dig a) (i : Nat) : Dig (a.drop i) := fun d hd => h d (List.mem_of_mem_drop hd)
theorem v_nonneg : ∀ {l : List Int}, Dig l → 0 ≤ V l
  | [], _ => Int.le_refl _
  | d :: l, h => by
    have h1 := (dig_cons.1 h).1
    have h2 := v_nonneg (dig_cons.1 h).2
    simp only [V]; omega
theorem pw_pos (n : Nat) : (0 : Int) < 65536 ^ n := Int.pow_pos (by omega)
theorem v_lt : ∀ {l : List Int}, Dig l → V l < 65536 ^ l.length
  | [], _ => by simp [V]
  | d :: l, h => by
    have h1 := (dig_cons.1 h).1
    have h2 := v_lt (dig_cons.1 h).2
    simp only [V, List.length_cons]
    rw [Int.pow_succ]
    omega
theorem v_app : ∀ (a b : List Int), V (a ++ b) = V a + 65536 ^ a.length * V b
  | [], b => by simp [V]
  | d :: l, b => by
    have h := v_app l b
    simp only [List.cons_append, V, List.length_cons, h]
    rw [Int.pow_succ]
    grind
theorem nth_lt {a : List Int} (h : Dig a) (i : Nat) : 0 ≤ nth 0 a i ∧ nth 0 a i < 65536 := by
  by_cases hi : i < a.length
  · exact h _ (nth_mem hi)
  · simp [nth, List.getD, hi]
theorem v_drop (a : List Int) (i : Nat) : V (a.drop i) = nth 0 a i + 65536 * V (a.drop (i + 1)) := by
  by_cases hi : i < a.length
  · rw [List.drop_eq_getElem_cons hi]
    simp [V, nth, List.getD, hi]
  · rw [List.drop_of_length_le (by omega), List.drop_of_length_le (by omega)]
    simp [V, nth, List.getD, hi]
theorem v_end (a : List Int) {i : Nat} (h : a.length ≤ i) : V (a.drop i) = 0 := by
  rw [List.drop_of_length_le h]; rfl

end Go.Proofs.Ytggmomkohmcciaa.F
