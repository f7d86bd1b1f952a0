/- Numbers as states: the reference's answer. -/
import Derived.Test.YtggmomkohmcciacGreatP41CSnapDecodes
set_option linter.unusedVariables false
set_option linter.unusedSimpArgs false
namespace Go.Proofs.YtggmomkohmcciacGreat.F
open Go.VX
open Classical
theorem of_kept (l : List Int) (m : Nat) (hm : m ≤ 100) (hl : 13 + 2 * m ≤ l.length) (n1 n2 n3 : Int) (w1 : WatchD) (c : CutSD) (f : Int × StateD × Unit → Option ((Int × StateD × Unit) ⊕ (StateD × Unit)))
    (hf : f = fun (s41 : Int × StateD × Unit) => cnd (decide (s41.1 < (m : Int))) (bnd (ati l (wr .i64 (13 + (wr .i64 (2 * s41.1))))) fun v43 => bnd (ati l (wr .i64 (14 + (wr .i64 (2 * s41.1))))) fun v44 => bnd (app 8796093022208 s41.2.1.2.2.2.2.2.1 [(v43, v44, ())]) fun v45 => inlE (wr .i64 (s41.1 + 1), (s41.2.1.1, s41.2.1.2.1, s41.2.1.2.2.1, s41.2.1.2.2.2.1, s41.2.1.2.2.2.2.1, v45, s41.2.1.2.2.2.2.2.2), ())) (inrE (some (s41.2.1, ())))) :
    loopP f (0, (n1, n2, n3, w1, c, [], [], (0, [], ()), ()), ()) = some ((n1, n2, n3, w1, c, keptOf l 13 m, [], (0, [], ()), ()), ()) := by
  have key : ∀ i : Nat, i ≤ m → loopP f (0, (n1, n2, n3, w1, c, [], [], (0, [], ()), ()), ()) = loopP f ((i : Int), (n1, n2, n3, w1, c, keptOf l 13 i, [], (0, [], ()), ()), ()) := by
    intro i
    induction i with
    | zero => intro _; rfl
    | succ i ih =>
      intro hi
      rw [ih (by omega)]
      refine loopP_step ?_
      rw [hf]
      dsimp only
      rw [decide_eq_true (by omega : (i : Int) < (m : Int)), cnd_t, wr_id (x := 2 * (i : Int)) (by omega) (by omega), wr_id (x := 13 + 2 * (i : Int)) (by omega) (by omega), wr_id (x := 14 + 2 * (i : Int)) (by omega) (by omega), show (13 : Int) + 2 * (i : Int) = ((13 + 2 * i : Nat) : Int) by omega, show (14 : Int) + 2 * (i : Int) = ((13 + 2 * i + 1 : Nat) : Int) by omega, ati_d 0 (by omega), bnd_mk, ati_d 0 (by omega), bnd_mk, app_ok' (by rw [keptOf_len, List.length_singleton]; omega), bnd_mk, wr_id (x := (i : Int) + 1) (by omega) (by omega), keptOf_succ]
      rfl
  rw [key m (Nat.le_refl _)]
  refine loopP_done ?_
  rw [hf]
  dsimp only
  rw [decide_eq_false (by omega : ¬ (m : Int) < (m : Int))]
  rfl
theorem sub_mid (l : List Int) (a k : Nat) (h : a + k ≤ l.length) : sub l (a : Int) ((a + k : Nat) : Int) = some (numsOf l a k) := by
  unfold sub
  rw [if_pos (by omega), Int.toNat_natCast, Int.toNat_natCast, List.drop_take, numsOf_take l a k h, show a + k - a = k by omega]
theorem r_Of41 (l : List Int) (hl : l.length ≤ 1000000) : ∃ s q, regimenref41_Of (l, ()) = some (s, q, ()) ∧ ((q = true ∧ numsS s = l ∧ l.length ≤ 200) ∨ (q = false ∧ (l.length ≤ 200 → ∀ s', numsS s' ≠ l))) := by
  have hwhole : ∀ s', numsS s' = l → ∃ m k q, ParseP l m k q := fun s' h => ⟨_, _, _, h ▸ nums_parse s'⟩
  unfold regimenref41_Of
  dsimp only
  by_cases h16 : l.length < 16
  · rw [decide_eq_true (by omega : (l.length : Int) < 16)]
    exact ⟨_, false, rfl, .inr ⟨rfl, fun _ s' hs => by obtain ⟨m, k, q, h⟩ := hwhole s' hs; have := h.2.2.2.2.2.2; omega⟩⟩
  rw [decide_eq_false (by omega : ¬ (l.length : Int) < 16)]
  by_cases h200 : l.length > 200
  · rw [decide_eq_true (by omega : (l.length : Int) > 200)]
    exact ⟨_, false, rfl, .inr ⟨rfl, fun h => by omega⟩⟩
  rw [decide_eq_false (by omega : ¬ (l.length : Int) > 200)]
  have at' : ∀ i : Nat, i < l.length → ati l (i : Int) = some (nth 0 l i) := fun i h => ati_d 0 h
  rw [show ati l 0 = _ from at' 0 (by omega), show ati l 4 = _ from at' 4 (by omega), show ati l 7 = _ from at' 7 (by omega)]
  simp only [bnd_mk, Bool.not_false, cnd_t]
  by_cases h0 : nth 0 l 0 = 1
  rotate_left
  · rw [decide_eq_false h0]
    exact ⟨_, false, rfl, .inr ⟨rfl, fun _ s' hs => by obtain ⟨m, k, q, h⟩ := hwhole s' hs; exact h0 h.1⟩⟩
  rw [decide_eq_true h0]
  have hbit : ∀ (n : Int) (K : Bool → Option (StateD × Bool × Unit)), (bnd (bnd (cnd (!decide (n = 0)) (some (!decide (n = 1))) (some false)) fun j6 => some j6) K) = K (!decide (n = 0 ∨ n = 1)) := fun n K => by
    by_cases a : n = 0
    · rw [decide_eq_true a, decide_eq_true (Or.inl a : n = 0 ∨ n = 1)]; rfl
    · by_cases b : n = 1
      · rw [decide_eq_false a, decide_eq_true b, decide_eq_true (Or.inr b : n = 0 ∨ n = 1)]; rfl
      · rw [decide_eq_false a, decide_eq_false b, decide_eq_false (fun h => h.elim a b : ¬ (n = 0 ∨ n = 1))]; rfl
  simp only [bnd_mk, Bool.not_false, Bool.not_true, cnd_t]
  rw [hbit]
  by_cases h4 : nth 0 l 4 = 0 ∨ nth 0 l 4 = 1
  rotate_left
  · rw [decide_eq_false h4]
    exact ⟨_, false, rfl, .inr ⟨rfl, fun _ s' hs => by obtain ⟨m, k, q, h⟩ := hwhole s' hs; exact h4 h.2.1⟩⟩
  rw [decide_eq_true h4]
  simp only [bnd_mk, Bool.not_false, Bool.not_true, cnd_t]
  rw [hbit]
  by_cases h7 : nth 0 l 7 = 0 ∨ nth 0 l 7 = 1
  rotate_left
  · rw [decide_eq_false h7]
    exact ⟨_, false, rfl, .inr ⟨rfl, fun _ s' hs => by obtain ⟨m, k, q, h⟩ := hwhole s' hs; exact h7 h.2.2.1⟩⟩
  rw [decide_eq_true h7, show ati l 12 = _ from at' 12 (by omega)]
  simp only [bnd_mk, Bool.not_false, Bool.not_true, cnd_t, cnd_f]
  by_cases hm0 : nth 0 l 12 < 0
  · rw [decide_eq_true hm0]
    exact ⟨_, false, rfl, .inr ⟨rfl, fun _ s' hs => by obtain ⟨m, k, q, h⟩ := hwhole s' hs; have := h.2.2.2.1; omega⟩⟩
  rw [decide_eq_false hm0]
  obtain ⟨m, hm⟩ : ∃ m : Nat, nth 0 l 12 = (m : Int) := ⟨(nth 0 l 12).toNat, by omega⟩
  rw [hm]
  by_cases hm1 : (m : Int) > 100
  · rw [decide_eq_true hm1]
    exact ⟨_, false, rfl, .inr ⟨rfl, fun _ s' hs => by obtain ⟨m, k, q, h⟩ := hwhole s' hs; have := h.2.2.2.1; have := h.2.2.2.2.2.2; omega⟩⟩
  rw [decide_eq_false hm1, wr_id (x := 2 * (m : Int)) (by omega) (by omega), wr_id (x := 16 + 2 * (m : Int)) (by omega) (by omega)]
  by_cases hm2 : (l.length : Int) < 16 + 2 * (m : Int)
  · rw [decide_eq_true hm2]
    exact ⟨_, false, rfl, .inr ⟨rfl, fun _ s' hs => by obtain ⟨m, k, q, h⟩ := hwhole s' hs; have := h.2.2.2.1; have := h.2.2.2.2.2.2; omega⟩⟩
  rw [decide_eq_false hm2, wr_id (x := 13 + 2 * (m : Int)) (by omega) (by omega), show (13 : Int) + 2 * (m : Int) = ((13 + 2 * m : Nat) : Int) by omega, at' (13 + 2 * m) (by omega)]
  simp only [bnd_mk, Bool.not_false, Bool.not_true, cnd_t, cnd_f]
  have same : ∀ s', numsS s' = l → ∃ k q, ParseP l m k q := fun s' hs => by
    obtain ⟨m', k, q, h⟩ := hwhole s' hs
    have := h.2.2.2.1
    have e : m' = m := by omega
    exact ⟨k, q, e ▸ h⟩
  by_cases hk0 : nth 0 l (13 + 2 * m) < 0
  · rw [decide_eq_true hk0]
    exact ⟨_, false, rfl, .inr ⟨rfl, fun _ s' hs => by obtain ⟨k, q, h⟩ := same s' hs; have := h.2.2.2.2.1; omega⟩⟩
  rw [decide_eq_false hk0]
  obtain ⟨k, hk⟩ : ∃ k : Nat, nth 0 l (13 + 2 * m) = (k : Int) := ⟨(nth 0 l (13 + 2 * m)).toNat, by omega⟩
  rw [hk]
  by_cases hk1 : (k : Int) > 200
  · rw [decide_eq_true hk1]
    exact ⟨_, false, rfl, .inr ⟨rfl, fun _ s' hs => by obtain ⟨k, q, h⟩ := same s' hs; have := h.2.2.2.2.1; have := h.2.2.2.2.2.2; omega⟩⟩
  rw [decide_eq_false hk1, wr_id (x := ((13 + 2 * m : Nat) : Int) + 3) (by omega) (by omega), wr_id (x := ((13 + 2 * m : Nat) : Int) + 3 + (k : Int)) (by omega) (by omega)]
  by_cases hk2 : (l.length : Int) < ((13 + 2 * m : Nat) : Int) + 3 + (k : Int)
  · rw [decide_eq_true hk2]
    exact ⟨_, false, rfl, .inr ⟨rfl, fun _ s' hs => by obtain ⟨k, q, h⟩ := same s' hs; have := h.2.2.2.2.1; have := h.2.2.2.2.2.2; omega⟩⟩
  rw [decide_eq_false hk2, wr_id (x := ((13 + 2 * m : Nat) : Int) + 2) (by omega) (by omega), wr_id (x := ((13 + 2 * m : Nat) : Int) + 2 + (k : Int)) (by omega) (by omega), show ((13 + 2 * m : Nat) : Int) + 2 + (k : Int) = ((15 + 2 * m + k : Nat) : Int) by omega, at' (15 + 2 * m + k) (by omega)]
  simp only [bnd_mk, Bool.not_false, Bool.not_true, cnd_t, cnd_f]
  have same2 : ∀ s', numsS s' = l → ∃ q, ParseP l m k q := fun s' hs => by
    obtain ⟨k', q, h⟩ := same s' hs
    have := h.2.2.2.2.1
    have e : k' = k := by omega
    exact ⟨q, e ▸ h⟩
  by_cases hq0 : nth 0 l (15 + 2 * m + k) < 0
  · rw [decide_eq_true hq0]
    exact ⟨_, false, rfl, .inr ⟨rfl, fun _ s' hs => by obtain ⟨q, h⟩ := same2 s' hs; have := h.2.2.2.2.2.1; omega⟩⟩
  rw [decide_eq_false hq0]
  obtain ⟨q, hq⟩ : ∃ q : Nat, nth 0 l (15 + 2 * m + k) = (q : Int) := ⟨(nth 0 l (15 + 2 * m + k)).toNat, by omega⟩
  rw [hq]
  by_cases hq1 : (q : Int) > 200
  · rw [decide_eq_true hq1]
    exact ⟨_, false, rfl, .inr ⟨rfl, fun _ s' hs => by obtain ⟨q, h⟩ := same2 s' hs; have := h.2.2.2.2.2.1; have := h.2.2.2.2.2.2; omega⟩⟩
  rw [decide_eq_false hq1, wr_id (x := ((15 + 2 * m + k : Nat) : Int) + 1) (by omega) (by omega), wr_id (x := ((15 + 2 * m + k : Nat) : Int) + 1 + (q : Int)) (by omega) (by omega)]
  by_cases hq2 : (l.length : Int) = ((15 + 2 * m + k : Nat) : Int) + 1 + (q : Int)
  rotate_left
  · rw [decide_eq_false hq2]
    exact ⟨_, false, rfl, .inr ⟨rfl, fun _ s' hs => by obtain ⟨q, h⟩ := same2 s' hs; have := h.2.2.2.2.2.1; have := h.2.2.2.2.2.2; omega⟩⟩
  rw [decide_eq_true hq2]
  have hP : ParseP l m k q := ⟨h0, h4, h7, hm, hk, hq, by omega⟩
  rw [show ati l 1 = _ from at' 1 (by omega), show ati l 2 = _ from at' 2 (by omega), show ati l 3 = _ from at' 3 (by omega), show ati l 5 = _ from at' 5 (by omega), show ati l 6 = _ from at' 6 (by omega), show ati l 8 = _ from at' 8 (by omega), show ati l 9 = _ from at' 9 (by omega), show ati l 10 = _ from at' 10 (by omega), show ati l 11 = _ from at' 11 (by omega)]
  simp only [bnd_mk, Bool.not_false, Bool.not_true, cnd_t, cnd_f]
  rw [of_kept l m (by omega) (by omega) _ _ _ _ _ _ rfl, bnd_mk]
  dsimp only
  rw [wr_id (x := ((13 + 2 * m : Nat) : Int) + 1) (by omega) (by omega), wr_id (x := ((13 + 2 * m : Nat) : Int) + 1 + (k : Int)) (by omega) (by omega), wr_id (x := ((15 + 2 * m + k : Nat) : Int) - 1) (by omega) (by omega), show ((13 + 2 * m : Nat) : Int) + 1 + (k : Int) = ((14 + 2 * m + k : Nat) : Int) by omega, show ((13 + 2 * m : Nat) : Int) + 1 = ((14 + 2 * m : Nat) : Int) by omega, show ((15 + 2 * m + k : Nat) : Int) - 1 = ((14 + 2 * m + k : Nat) : Int) by omega, show ((15 + 2 * m + k : Nat) : Int) + 1 = ((16 + 2 * m + k : Nat) : Int) by omega, show (l.length : Int) = ((16 + 2 * m + k + q : Nat) : Int) by omega, sub_mid l _ k (by omega), sub_mid l _ q (by omega), at' (14 + 2 * m + k) (by omega)]
  simp only [bnd_mk]
  rw [app_ok' (by rw [numsOf_len, List.length_nil]; omega), bnd_mk, app_ok' (by rw [numsOf_len, List.length_nil]; omega), bnd_mk, List.nil_append, List.nil_append]
  exact ⟨_, true, rfl, .inl ⟨rfl, parse_nums l m k q hP, by omega⟩⟩
end Go.Proofs.YtggmomkohmcciacGreat.F
