/- Loops over lists: every element turned in its place; every element turned and appended. What a recipe that is light holds. -/
import Derived.Test.YtggmomkohmcciabP0SwapSelf
import Derived.Test.YtggmomkohmcciabFSwapSelf
set_option linter.unusedVariables false
set_option linter.unusedSimpArgs false
namespace Go.Proofs.Ytggmomkohmcciab.F
open Go.VX

theorem nth_ext {α : Type} (z : α) {a b : List α} (hl : a.length = b.length) (h : ∀ i, i < a.length → nth z a i = nth z b i) : a = b := by
  refine List.ext_getElem hl fun i h1 h2 => ?_
  have := h i h1
  simpa [nth, List.getD, h1, h2] using this
theorem nth_map {α β : Type} (z : α) (w : β) (g : α → β) {l : List α} {i : Nat} (h : i < l.length) : nth w (l.map g) i = g (nth z l i) := by
  simp [nth, List.getD, h]
theorem nth_set {α : Type} (z : α) (a : List α) (i j : Nat) (d : α) (h : i < a.length) : nth z (a.set i d) j = if i = j then d else nth z a j := by
  by_cases e : i = j
  · subst e; simp [nth, List.getD, h]
  · simp [nth, List.getD, e]
theorem nth_append {α : Type} (z : α) (a : List α) (d : α) (j : Nat) : nth z (a ++ [d]) j = if j = a.length then d else nth z a j := by
  by_cases e : j = a.length
  · subst e; simp [nth, List.getD]
  · by_cases h : j < a.length
    · simp [nth, List.getD, h, e, List.getElem?_append]
    · simp [nth, List.getD, e, List.getElem?_append, h, show ¬ j - a.length = 0 by omega]
theorem set_loop {α : Type} (z : α) (l : List α) (g : α → α) (f : Int × List α × Unit → Option ((Int × List α × Unit) ⊕ (List α × Unit)))
    (h1 : ∀ (i : Nat) (o : List α), i < l.length → o.length = l.length → nth z o i = nth z l i → f ((i : Int), o, ()) = some (.inl ((i : Int) + 1, o.set i (g (nth z l i)), ())))
    (h2 : ∀ o, o.length = l.length → f ((l.length : Int), o, ()) = some (.inr (o, ()))) : loopP f (0, l, ()) = some (l.map g, ()) := by
  obtain ⟨r, e, h⟩ := loop_rule (f := f) (fun s => 0 ≤ s.1 ∧ s.1 ≤ l.length ∧ s.2.1.length = l.length ∧ ∀ j, j < l.length → nth z s.2.1 j = if (j : Int) < s.1 then g (nth z l j) else nth z l j) (fun s => l.length - s.1.toNat) (fun r => r = (l.map g, ())) (fun s ⟨i0, i1, i2, i3⟩ => by
    obtain ⟨i, o, _⟩ := s
    dsimp only at *
    obtain ⟨k, rfl⟩ : ∃ k : Nat, i = k := ⟨i.toNat, by omega⟩
    by_cases hk : k < l.length
    · left
      have e := h1 k o hk i2 (by rw [i3 k hk, if_neg (by omega)])
      refine ⟨_, e, ⟨by dsimp only; omega, by dsimp only; omega, by simp [i2], fun j hj => ?_⟩, by dsimp only; omega⟩
      dsimp only
      rw [nth_set z _ _ _ _ (by omega)]
      by_cases hjk : k = j
      · rw [if_pos hjk, if_pos (by omega), hjk]
      · rw [if_neg hjk, i3 j hj]
        by_cases hlt : (j : Int) < k
        · rw [if_pos hlt, if_pos (by omega)]
        · rw [if_neg hlt, if_neg (by omega)]
    · right
      have hkn : k = l.length := by omega
      subst hkn
      refine ⟨_, h2 o i2, ?_⟩
      have : o = l.map g := nth_ext z (by simp [i2]) fun j hj => by
        rw [i3 j (by omega), if_pos (by omega), nth_map z z g (by omega)]
      rw [this]) (0, l, ()) ⟨by simp, by simp, rfl, fun j hj => by rw [if_neg (by dsimp only; omega)]⟩
  rw [e, h]
theorem app_loop {α β : Type} (z : α) (l : List α) (g : α → β) (f : List β × Int × Unit → Option ((List β × Int × Unit) ⊕ (List β × Unit)))
    (h1 : ∀ (i : Nat) (o : List β), i < l.length → o.length = i → f (o, (i : Int), ()) = some (.inl (o ++ [g (nth z l i)], (i : Int) + 1, ())))
    (h2 : ∀ o, o.length = l.length → f (o, (l.length : Int), ()) = some (.inr (o, ()))) : loopP f ([], 0, ()) = some (l.map g, ()) := by
  obtain ⟨r, e, h⟩ := loop_rule (f := f) (fun s => 0 ≤ s.2.1 ∧ s.2.1 ≤ l.length ∧ s.1 = (l.take s.2.1.toNat).map g) (fun s => l.length - s.2.1.toNat) (fun r => r = (l.map g, ())) (fun s ⟨i0, i1, i2⟩ => by
    obtain ⟨o, i, _⟩ := s
    dsimp only at *
    obtain ⟨k, rfl⟩ : ∃ k : Nat, i = k := ⟨i.toNat, by omega⟩
    rw [Int.toNat_natCast] at *
    have hlen : o.length = k := by rw [i2]; simp; omega
    by_cases hk : k < l.length
    · left
      refine ⟨_, h1 k o hk hlen, ⟨by dsimp only; omega, by dsimp only; omega, ?_⟩, by dsimp only; omega⟩
      dsimp only
      rw [show ((k : Int) + 1).toNat = k + 1 by omega, List.take_succ_eq_append_getElem hk, List.map_append, ← i2]
      simp [nth, List.getD, hk]
    · right
      have hkn : k = l.length := by omega
      refine ⟨(o, ()), by rw [hkn]; exact h2 o (by omega), ?_⟩
      rw [i2, hkn, List.take_length]) ([], 0, ()) ⟨by simp, by simp, by simp⟩
  rw [e, h]
theorem amb_same {α : Type} (b : Bool) (k : Bool → Option α) (h : b = true → k true = k false) : amb b k = k false := by
  cases b with
  | false => rfl
  | true =>
    simp only [amb]
    split
    · rfl
    · rename_i hn _
      exact (hn (h rfl)).elim
theorem clone_ok {α : Type} (l : List α) (lim : Nat) (h : l.length ≤ lim) : (amb l.isEmpty fun q1 => cnd q1 (some []) (bnd (app lim [] l) fun v2 => some v2)) = some l := by
  rw [amb_same _ _ (fun hb => by
    have : l = [] := by simpa using hb
    subst this
    rfl), cnd_f, app_ok (by simpa using h)]
  rfl
end Go.Proofs.Ytggmomkohmcciab.F
