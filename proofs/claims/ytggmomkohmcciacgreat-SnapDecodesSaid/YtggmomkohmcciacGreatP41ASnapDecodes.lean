/- States as numbers, in plain Lean. -/
import Derived.Test.YtggmomkohmcciacGreatP37ASnapDecodes
set_option linter.unusedVariables false
set_option linter.unusedSimpArgs false
namespace Go.Proofs.YtggmomkohmcciacGreat.F
open Go.VX
open Classical
def bitS (b : Bool) : Int := if b = true then 1 else 0
def flatK : List KeptD → List Int
  | [] => []
  | k :: r => k.1 :: k.2.1 :: flatK r
theorem flatK_len : ∀ l : List KeptD, (flatK l).length = 2 * l.length
  | [] => rfl
  | k :: r => by rw [flatK, List.length_cons, List.length_cons, flatK_len r, List.length_cons]; omega
theorem flatK_app : ∀ l m : List KeptD, flatK (l ++ m) = flatK l ++ flatK m
  | [], m => rfl
  | k :: r, m => by rw [List.cons_append, flatK, flatK, flatK_app r m]; rfl
theorem flatK_inj : ∀ l m : List KeptD, flatK l = flatK m → l = m
  | [], [], _ => rfl
  | [], k :: r, h => by cases h
  | k :: r, [], h => by cases h
  | (a, b, _) :: r, (c, d, _) :: s, h => by
    rw [flatK, flatK] at h
    injection h with h1 h
    injection h with h2 h
    dsimp only at h1 h2
    rw [flatK_inj r s h, h1, h2]
def tailS (s : StateD) : List Int := flatK s.2.2.2.2.2.1 ++ ((s.2.2.2.2.2.2.1.length : Int) :: (s.2.2.2.2.2.2.1 ++ (s.2.2.2.2.2.2.2.1.1 :: (s.2.2.2.2.2.2.2.1.2.1.length : Int) :: s.2.2.2.2.2.2.2.1.2.1)))
def numsS (s : StateD) : List Int := 1 :: s.1 :: s.2.1 :: s.2.2.1 :: bitS s.2.2.2.1.1 :: s.2.2.2.1.2.1 :: s.2.2.2.1.2.2.1 :: bitS s.2.2.2.2.1.1.1 :: s.2.2.2.2.1.1.2.1 :: s.2.2.2.2.1.1.2.2.1 :: s.2.2.2.2.1.2.1 :: s.2.2.2.2.1.2.2.1 :: (s.2.2.2.2.2.1.length : Int) :: tailS s
theorem bit_inj {a b : Bool} (h : bitS a = bitS b) : a = b := by
  cases a <;> cases b <;> simp [bitS] at h <;> rfl
theorem nums_inj (s t : StateD) (h : numsS s = numsS t) : s = t := by
  obtain ⟨a1, a2, a3, ⟨b1, b2, b3, _⟩, ⟨⟨c1, c2, c3, _⟩, c4, c5, _⟩, ke, em, ⟨n, su, _⟩, _⟩ := s
  obtain ⟨a1', a2', a3', ⟨b1', b2', b3', _⟩, ⟨⟨c1', c2', c3', _⟩, c4', c5', _⟩, ke', em', ⟨n', su', _⟩, _⟩ := t
  simp only [numsS, tailS, List.cons.injEq, true_and] at h
  obtain ⟨rfl, rfl, rfl, e1, rfl, rfl, e2, rfl, rfl, rfl, rfl, e3, h⟩ := h
  have hb := bit_inj e1
  have hc := bit_inj e2
  subst hb hc
  have hk : ke.length = ke'.length := by omega
  obtain ⟨h1, g⟩ := List.append_inj h (by rw [flatK_len, flatK_len, hk])
  have hke := flatK_inj _ _ h1
  injection g with e4 g
  have he : em.length = em'.length := by omega
  obtain ⟨h2, g2⟩ := List.append_inj g he
  injection g2 with e5 g2
  injection g2 with e6 g2
  rw [hke, h2, e5, g2]
theorem nth_drop {α : Type} (z : α) (l : List α) (i j : Nat) : nth z (l.drop i) j = nth z l (i + j) := by
  simp [nth, List.getD, List.getElem?_drop]
theorem drop_nth {α : Type} (z : α) (l : List α) {i : Nat} (h : i < l.length) : l.drop i = nth z l i :: l.drop (i + 1) := by
  rw [List.drop_eq_getElem_cons h]
  congr 1
  simp [nth, List.getD, h]
theorem take_nth {α : Type} (z : α) (l : List α) {i : Nat} (h : i < l.length) : l.take (i + 1) = l.take i ++ [nth z l i] := by
  rw [List.take_add_one]
  congr 1
  simp [nth, List.getD, h]
def keptOf (l : List Int) (at' m : Nat) : List KeptD := (List.range m).map fun i => (nth 0 l (at' + 2 * i), nth 0 l (at' + 2 * i + 1), ())
theorem keptOf_succ (l : List Int) (at' m : Nat) : keptOf l at' (m + 1) = keptOf l at' m ++ [(nth 0 l (at' + 2 * m), nth 0 l (at' + 2 * m + 1), ())] := by
  unfold keptOf
  rw [List.range_succ, List.map_append]
  rfl
theorem keptOf_len (l : List Int) (at' m : Nat) : (keptOf l at' m).length = m := by unfold keptOf; simp
theorem keptOf_flat (l : List Int) (at' : Nat) : ∀ m : Nat, at' + 2 * m ≤ l.length → flatK (keptOf l at' m) = (l.drop at').take (2 * m)
  | 0, h => by rw [Nat.mul_zero, List.take_zero]; rfl
  | m + 1, h => by
    rw [keptOf_succ, flatK_app, keptOf_flat l at' m (by omega), show 2 * (m + 1) = 2 * m + 1 + 1 by omega, take_nth 0 _ (by rw [List.length_drop]; omega), take_nth 0 _ (by rw [List.length_drop]; omega), List.append_assoc, nth_drop, nth_drop]
    rfl
def numsOf (l : List Int) (at' m : Nat) : List Int := (List.range m).map fun i => nth 0 l (at' + i)
theorem numsOf_succ (l : List Int) (at' m : Nat) : numsOf l at' (m + 1) = numsOf l at' m ++ [nth 0 l (at' + m)] := by
  unfold numsOf
  rw [List.range_succ, List.map_append]
  rfl
theorem numsOf_take (l : List Int) (at' : Nat) : ∀ m : Nat, at' + m ≤ l.length → numsOf l at' m = (l.drop at').take m
  | 0, h => rfl
  | m + 1, h => by
    rw [numsOf_succ, numsOf_take l at' m (by omega), take_nth 0 _ (by rw [List.length_drop]; omega), nth_drop]
def ParseP (l : List Int) (m k q : Nat) : Prop := nth 0 l 0 = 1 ∧ (nth 0 l 4 = 0 ∨ nth 0 l 4 = 1) ∧ (nth 0 l 7 = 0 ∨ nth 0 l 7 = 1) ∧ nth 0 l 12 = (m : Int) ∧ nth 0 l (13 + 2 * m) = (k : Int) ∧ nth 0 l (15 + 2 * m + k) = (q : Int) ∧ l.length = 16 + 2 * m + k + q
def stateOf (l : List Int) (m k q : Nat) : StateD :=
  (nth 0 l 1, nth 0 l 2, nth 0 l 3, (decide (nth 0 l 4 = 1), nth 0 l 5, nth 0 l 6, ()), ((decide (nth 0 l 7 = 1), nth 0 l 8, nth 0 l 9, ()), nth 0 l 10, nth 0 l 11, ()), keptOf l 13 m, numsOf l (14 + 2 * m) k, (nth 0 l (14 + 2 * m + k), numsOf l (16 + 2 * m + k) q, ()), ())
theorem bit_of {n : Int} (h : n = 0 ∨ n = 1) : bitS (decide (n = 1)) = n := by
  rcases h with rfl | rfl <;> rfl
theorem numsOf_len (l : List Int) (at' m : Nat) : (numsOf l at' m).length = m := by unfold numsOf; simp
theorem parse_nums (l : List Int) (m k q : Nat) (h : ParseP l m k q) : numsS (stateOf l m k q) = l := by
  obtain ⟨h0, h4, h7, h12, hk, hq, hl⟩ := h
  have hd : ∀ i, i < l.length → l.drop i = nth 0 l i :: l.drop (i + 1) := fun i hi => drop_nth 0 l hi
  have ht : tailS (stateOf l m k q) = l.drop 13 := by
    unfold tailS stateOf
    dsimp only
    rw [keptOf_flat l 13 m (by omega), numsOf_len, numsOf_len, numsOf_take l _ k (by omega), numsOf_take l _ q (by omega)]
    have e1 := List.take_append_drop (2 * m) (l.drop 13)
    have e2 := List.take_append_drop k (l.drop (14 + 2 * m))
    rw [List.drop_drop] at e1 e2
    have e3 : (l.drop (16 + 2 * m + k)).take q = l.drop (16 + 2 * m + k) := List.take_of_length_le (by rw [List.length_drop]; omega)
    rw [e3, ← hq, show nth 0 l (15 + 2 * m + k) :: l.drop (16 + 2 * m + k) = l.drop (15 + 2 * m + k) by rw [hd (15 + 2 * m + k) (by omega), show 15 + 2 * m + k + 1 = 16 + 2 * m + k by omega]]
    rw [show nth 0 l (14 + 2 * m + k) :: l.drop (15 + 2 * m + k) = l.drop (14 + 2 * m + k) by rw [hd (14 + 2 * m + k) (by omega), show 14 + 2 * m + k + 1 = 15 + 2 * m + k by omega], e2, ← hk]
    rw [show nth 0 l (13 + 2 * m) :: l.drop (14 + 2 * m) = l.drop (13 + 2 * m) by rw [hd (13 + 2 * m) (by omega), show 13 + 2 * m + 1 = 14 + 2 * m by omega], e1]
  unfold numsS
  rw [ht]
  unfold stateOf
  dsimp only
  rw [bit_of h4, bit_of h7, keptOf_len, ← h12, ← h0]
  have := hd 12 (by omega)
  rw [← this, ← hd 11 (by omega), ← hd 10 (by omega), ← hd 9 (by omega), ← hd 8 (by omega), ← hd 7 (by omega), ← hd 6 (by omega), ← hd 5 (by omega), ← hd 4 (by omega), ← hd 3 (by omega), ← hd 2 (by omega), ← hd 1 (by omega), ← hd 0 (by omega), List.drop_zero]
theorem nums_parse (s : StateD) : ParseP (numsS s) s.2.2.2.2.2.1.length s.2.2.2.2.2.2.1.length s.2.2.2.2.2.2.2.1.2.1.length := by
  have hb : ∀ b, bitS b = 0 ∨ bitS b = 1 := fun b => by cases b <;> simp [bitS]
  have hd : (numsS s).drop 13 = tailS s := rfl
  have h1 : (numsS s).drop (13 + 2 * s.2.2.2.2.2.1.length) = (s.2.2.2.2.2.2.1.length : Int) :: (s.2.2.2.2.2.2.1 ++ (s.2.2.2.2.2.2.2.1.1 :: (s.2.2.2.2.2.2.2.1.2.1.length : Int) :: s.2.2.2.2.2.2.2.1.2.1)) := by
    rw [← List.drop_drop, hd, tailS, ← flatK_len, List.drop_left]
  have h2 : (numsS s).drop (14 + 2 * s.2.2.2.2.2.1.length + s.2.2.2.2.2.2.1.length) = s.2.2.2.2.2.2.2.1.1 :: (s.2.2.2.2.2.2.2.1.2.1.length : Int) :: s.2.2.2.2.2.2.2.1.2.1 := by
    rw [show 14 + 2 * s.2.2.2.2.2.1.length + s.2.2.2.2.2.2.1.length = 13 + 2 * s.2.2.2.2.2.1.length + (1 + s.2.2.2.2.2.2.1.length) by omega, ← List.drop_drop, h1, Nat.add_comm 1, List.drop_succ_cons, List.drop_left]
  refine ⟨rfl, hb _, hb _, rfl, ?_, ?_, ?_⟩
  · have := nth_drop 0 (numsS s) (13 + 2 * s.2.2.2.2.2.1.length) 0
    rw [h1, Nat.add_zero] at this
    exact this.symm
  · have := nth_drop 0 (numsS s) (14 + 2 * s.2.2.2.2.2.1.length + s.2.2.2.2.2.2.1.length) 1
    rw [h2, show 14 + 2 * s.2.2.2.2.2.1.length + s.2.2.2.2.2.2.1.length + 1 = 15 + 2 * s.2.2.2.2.2.1.length + s.2.2.2.2.2.2.1.length by omega] at this
    exact this.symm
  · simp only [numsS, tailS, List.length_cons, List.length_append, flatK_len]
    omega
theorem parse_one (l : List Int) (m k q : Nat) (h : ParseP l m k q) (s : StateD) (hs : numsS s = l) : s = stateOf l m k q := nums_inj _ _ (by rw [hs, parse_nums l m k q h])
end Go.Proofs.YtggmomkohmcciacGreat.F
