/- States: steps taken, steps of Swa, sameness. -/
import Derived.Test.YtggmomkohmcciabGreatPZDiffStep
set_option linter.unusedVariables false
set_option linter.unusedSimpArgs false
namespace Go.Proofs.YtggmomkohmcciabGreat.F
open Go.VX
open Classical

abbrev KeptD := Int × Int × Unit
abbrev WatchD := Bool × Int × Int × Unit
abbrev CutSD := WatchD × Int × Int × Unit
abbrev StateD := Int × Int × Int × WatchD × CutSD × List KeptD × List Int × (Int × List Int × Unit) × Unit
theorem len_nat {α : Type} (a b : List α) : decide ((a.length : Int) = (b.length : Int)) = decide (a.length = b.length) := by
  rw [decide_eq_decide]; omega
theorem equal_I (a b : List Int) (hl : a.length ≤ 9223372036854775807) : ∃ q, slices_Equal_int_int (a, b, ()) = some q ∧ (q = true ↔ a = b) := by
  unfold slices_Equal_int_int
  by_cases h : a.length = b.length
  · rcases eq_loop (fun x y : Int => decide (x = y)) (fun x y => by simp) a b h hl false (fun _ => some true) with ⟨h1, h2⟩ | ⟨h1, h2⟩
    · refine ⟨true, ?_, by simp [h1]⟩
      dsimp only
      rw [len_nat, decide_eq_true h]
      exact h2
    · refine ⟨false, ?_, by simp [h1]⟩
      dsimp only
      rw [len_nat, decide_eq_true h]
      exact h2
  · refine ⟨false, ?_, by simp; intro e; exact h (by rw [e])⟩
    dsimp only
    rw [len_nat, decide_eq_false h]
    rfl
abbrev tWatch : Ty := .pr .bool (.pr (.int .i64) (.pr (.int .i64) .unit))
abbrev tCutS : Ty := .pr tWatch (.pr (.int .i64) (.pr (.int .i64) .unit))
def SwaP (from' every : Int) (i : Int) : Prop := 0 < every ∧ from' ≤ i ∧ (i - from') % every = 0
noncomputable def sumsF (from' every : Int) : Nat → Int
  | 0 => 0
  | n + 1 => sumsF from' every n + if SwaP from' every n then 1 else 0
theorem sums_nn (from' every : Int) : ∀ n, 0 ≤ sumsF from' every n ∧ sumsF from' every n ≤ n
  | 0 => by simp [sumsF]
  | n + 1 => by
    have := sums_nn from' every n
    simp only [sumsF]
    split <;> omega
theorem div_up (m e : Nat) (he : 0 < e) : (m + 1) / e = m / e + if (m + 1) % e = 0 then 1 else 0 := by
  have hd := Nat.div_add_mod m e
  have hr := Nat.mod_lt m he
  generalize m / e = q at *
  generalize m % e = r at *
  subst hd
  by_cases h : r + 1 = e
  · have h2 : e * q + r + 1 = e * (q + 1) := by rw [Nat.mul_add]; omega
    rw [h2, Nat.mul_div_cancel_left _ he, Nat.mul_mod_right, if_pos rfl]
  · rw [Nat.add_assoc, Nat.mul_add_div he, Nat.mul_add_mod, Nat.div_eq_of_lt (by omega), Nat.mod_eq_of_lt (by omega), if_neg (by omega)]
theorem sums_form (f e : Nat) (he : 0 < e) : ∀ n : Nat, sumsF f e n = if n ≤ f then 0 else (((n - 1 - f) / e + 1 : Nat) : Int)
  | 0 => by simp [sumsF]
  | n + 1 => by
    simp only [sumsF, sums_form f e he n]
    by_cases h : n + 1 ≤ f
    · rw [if_pos (by omega), if_pos h, if_neg (fun k => by have := k.2.1; omega)]; rfl
    · rw [if_neg h]
      by_cases h2 : n ≤ f
      · have hn : n = f := by omega
        subst hn
        rw [if_pos (Nat.le_refl _), if_pos ⟨by omega, by omega, by simp⟩, show n + 1 - 1 - n = 0 by omega, Nat.zero_div]
        rfl
      · rw [if_neg h2]
        obtain ⟨m, hm⟩ : ∃ m, n - 1 - f = m := ⟨_, rfl⟩
        have hm2 : n + 1 - 1 - f = m + 1 := by omega
        rw [hm, hm2, div_up m e he]
        have hi : ((n : Int) - (f : Int)) % (e : Int) = (((m + 1) % e : Nat) : Int) := by
          rw [show (n : Int) - (f : Int) = ((m + 1 : Nat) : Int) by omega]
          exact (Int.natCast_emod _ _).symm
        by_cases h3 : (m + 1) % e = 0
        · rw [if_pos ⟨by omega, by omega, by rw [hi, h3]; rfl⟩, if_pos h3]
          omega
        · rw [if_neg (fun k => h3 (by have := k.2.2; rw [hi] at this; omega)), if_neg h3]
          omega
end Go.Proofs.YtggmomkohmcciabGreat.F
