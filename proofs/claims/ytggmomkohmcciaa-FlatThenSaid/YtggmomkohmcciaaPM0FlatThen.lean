/- Functions that call themselves: what one comes to with more leave is the same. -/
import Derived.Test.YtggmomkohmcciaaP0FlatThen
import Derived.Test.YtggmomkohmcciaaVx3
set_option linter.unusedVariables false
set_option linter.unusedSimpArgs false
namespace Go.Proofs.Ytggmomkohmcciaa.F
open Go.VX

def Le {α : Type} (x y : Option α) : Prop := ∀ v, x = some v → y = some v
theorem le_same {α : Type} (x : Option α) : Le x x := fun _ h => h
theorem le_none {α : Type} (x : Option α) : Le none x := fun _ h => by cases h
theorem bnd_le {α β : Type} {x x' : Option α} {f f' : α → Option β} (h : Le x x') (hf : ∀ a, Le (f a) (f' a)) : Le (bnd x f) (bnd x' f') := by
  intro v hv
  cases hx : x with
  | none => rw [hx] at hv; cases hv
  | some a =>
    rw [hx] at hv
    rw [h a hx]
    exact hf a v hv
theorem cnd_le {α : Type} (b : Bool) {x x' y y' : Option α} (h : Le x x') (h' : Le y y') : Le (cnd b x y) (cnd b x' y') := by
  cases b
  · exact h'
  · exact h
theorem rec_mono {α β : Type} {F : Nat → α → Option β} (hm : ∀ n x, Le (F n x) (F (n + 1) x)) {n : Nat} {x : α} {v : β} (h : F n x = some v) : recP F x = some v := by
  have up : ∀ (n k : Nat) x, Le (F n x) (F (n + k) x) := by
    intro n k x
    induction k with
    | zero => exact le_same _
    | succ k ih => exact fun v hv => hm (n + k) x v (ih v hv)
  refine recP_is (fun m y hy => ?_) n h
  have h1 := up n m x v h
  have h2 := up m n x y hy
  rw [Nat.add_comm m n, h1] at h2
  exact (Option.some.inj h2).symm
end Go.Proofs.Ytggmomkohmcciaa.F
