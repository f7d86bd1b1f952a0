/- Schedules made flat: the two schedules of a then. -/
import Derived.Test.YtggmomkohmcciaaP25CFlatThen
set_option linter.unusedVariables false
set_option linter.unusedSimpArgs false
namespace Go.Proofs.Ytggmomkohmcciaa.F
open Go.VX
open Classical
theorem walk_app : ∀ (l s : List Int) (c k : Nat), walk l c = some k → walk (l ++ s) c = some k
  | l, s, 0, k, h => by rw [walk_zero] at h ⊢; exact h
  | [], s, c + 1, k, h => by simp [walk] at h
  | o :: r, s, c + 1, k, h => by
    rw [List.cons_append]
    simp only [walk] at h ⊢
    cases ha : arN o with
    | none => rw [ha] at h; cases h
    | some a =>
      rw [ha] at h
      dsimp only at h ⊢
      cases hw : walk r (c + a) with
      | none => rw [hw] at h; cases h
      | some j =>
        rw [hw] at h
        rw [walk_app r s _ _ hw]
        exact h
theorem walk_take : ∀ (l : List Int) (c k : Nat), walk l c = some k → walk (l.take k) c = some k
  | l, 0, k, h => by rw [walk_zero] at h ⊢; exact h
  | [], c + 1, k, h => by simp [walk] at h
  | o :: r, c + 1, k, h => by
    simp only [walk] at h
    cases ha : arN o with
    | none => rw [ha] at h; cases h
    | some a =>
      rw [ha] at h
      dsimp only at h
      cases hw : walk r (c + a) with
      | none => rw [hw] at h; cases h
      | some j =>
        rw [hw] at h
        cases h
        rw [List.take_succ_cons]
        simp only [walk, ha]
        rw [walk_take r _ _ hw]
theorem kids_of (o : Int) (r : List Int) (k : Nat) (h : walk (o :: r) 1 = some k) : arN o = some 0 ∨ (arN o = some 1 ∧ ∃ k1, walk r 1 = some k1) ∨ (arN o = some 2 ∧ ∃ k1 k2, walk r 1 = some k1 ∧ walk (r.drop k1) 1 = some k2 ∧ k = 1 + k1 + k2) := by
  simp only [walk] at h
  cases ha : arN o with
  | none => rw [ha] at h; cases h
  | some a =>
    rw [ha] at h
    dsimp only at h
    have ha2 := ar_le ha
    match a, ha2 with
    | 0, _ => exact .inl rfl
    | 1, _ =>
      cases hk : walk r (0 + 1) with
      | none => rw [hk] at h; cases h
      | some k1 => exact .inr (.inl ⟨rfl, k1, rfl⟩)
    | 2, _ =>
      rw [show 0 + 2 = 1 + 1 from rfl, walk_add] at h
      cases hk : walk r 1 with
      | none => rw [hk] at h; cases h
      | some k1 =>
        rw [hk] at h
        dsimp only at h
        cases hk2 : walk (r.drop k1) 1 with
        | none => rw [hk2] at h; cases h
        | some k2 =>
          rw [hk2] at h
          cases h
          exact .inr (.inr ⟨rfl, k1, k2, rfl, hk2, by omega⟩)
theorem dep_app (s : List Int) : ∀ (N : Nat) (a : List Int), a.length ≤ N → (∃ k, walk a 1 = some k) → dep (a ++ s) = dep a
  | N, [], _, ⟨k, h⟩ => by simp [walk] at h
  | 0, o :: r, h, _ => by simp at h
  | N + 1, o :: r, hN, ⟨k, h⟩ => by
    have hr : r.length ≤ N := by simpa using hN
    rw [List.cons_append, dep, dep]
    rcases kids_of o r k h with ha | ⟨ha, hk⟩ | ⟨ha, k1, k2, h1, h2, _⟩
    · rw [ha]; rfl
    · rw [ha]
      show dep (r ++ s) + 1 = dep r + 1
      rw [dep_app s N r hr hk]
    · rw [ha]
      show max (dep (r ++ s)) (dep (List.drop ((walk (r ++ s) 1).getD 0) (r ++ s))) + 1 = max (dep r) (dep (List.drop ((walk r 1).getD 0) r)) + 1
      have hle := walk_le _ _ _ h1
      rw [walk_app r s _ _ h1, h1, Option.getD_some, dep_app s N r hr ⟨k1, h1⟩, List.drop_append_of_le_length hle, dep_app s N (r.drop k1) (by rw [List.length_drop]; omega) ⟨k2, h2⟩]
theorem ops_app (a s : List NodD) : opsN (a ++ s) = opsN a ++ opsN s := List.map_append ..
theorem atS_app (ep : Int) (s : List NodD) : ∀ (N : Nat) (a : List NodD), a.length ≤ N → (∃ k, walk (opsN a) 1 = some k) → ∀ i n, AtS ep (a ++ s) i n = AtS ep a i n
  | N, [], _, ⟨k, h⟩, i, n => by simp [opsN, walk] at h
  | 0, d :: r, h, _, i, n => by simp at h
  | N + 1, d :: r, hN, ⟨k, h⟩, i, n => by
    have hr : r.length ≤ N := by simpa using hN
    rw [List.cons_append, AtS, AtS]
    have hk := kids_of d.1 (opsN r) k h
    by_cases h6 : d.1 = 6
    · rw [if_pos h6, if_pos h6]
    rw [if_neg h6, if_neg h6]
    by_cases h7 : d.1 = 7
    · rw [if_pos h7, if_pos h7]
    rw [if_neg h7, if_neg h7]
    by_cases h8 : d.1 = 8
    · rw [if_pos h8, if_pos h8]
      have hk1 : ∃ k1, walk (opsN r) 1 = some k1 := by
        rcases hk with ha | ⟨_, hk⟩ | ⟨ha, _⟩
        · rw [arN_8 h8] at ha; cases ha
        · exact hk
        · rw [arN_8 h8] at ha; cases ha
      simp only [atS_app ep s N r hr hk1]
    rw [if_neg h8, if_neg h8]
    by_cases h9 : d.1 = 9
    · rw [if_pos h9, if_pos h9]
      have hk1 : ∃ k1 k2, walk (opsN r) 1 = some k1 ∧ walk ((opsN r).drop k1) 1 = some k2 := by
        rcases hk with ha | ⟨ha, _⟩ | ⟨_, k1, k2, a, b, _⟩
        · rw [arN_9 h9] at ha; cases ha
        · rw [arN_9 h9] at ha; cases ha
        · exact ⟨k1, k2, a, b⟩
      obtain ⟨k1, k2, h1, h2⟩ := hk1
      have hle := walk_le _ _ _ h1
      rw [ops_len] at hle
      rw [ops_app, walk_app _ _ _ _ h1, h1, Option.getD_some, atS_app ep s N r hr ⟨k1, h1⟩, List.drop_append_of_le_length hle, atS_app ep s N (r.drop k1) (by rw [List.length_drop]; omega) ⟨k2, by rw [ops_dropL]; exact h2⟩]
    · rw [if_neg h9, if_neg h9]
theorem then_is (d : NodD) (r : List NodD) (ep : Int) (h : FlatOk (d :: r) ep) (h9 : d.1 = 9) : ∃ k1, k1 ≤ r.length ∧ 0 < k1 ∧ resE (opsN (d :: r)) 1 1 = ((1 + k1 : Nat) : Int) ∧ FlatOk (r.take k1) ep ∧ FlatOk (r.drop k1) ep ∧
    ∀ i n, AtS ep (d :: r) i n = if i < WN d n ep then AtS ep (r.take k1) i (WN d n ep) else AtS ep (r.drop k1) (i - WN d n ep) (n - WN d n ep) := by
  obtain ⟨⟨⟨hw, hl⟩, hno, hdp⟩, hF, e0, e1⟩ := h
  have hk1 : ∃ k1 k2, walk (opsN r) 1 = some k1 ∧ walk ((opsN r).drop k1) 1 = some k2 ∧ (d :: r).length = 1 + k1 + k2 := by
    rcases kids_of d.1 (opsN r) _ hw with ha | ⟨ha, _⟩ | ⟨_, h⟩
    · rw [arN_9 h9] at ha; cases ha
    · rw [arN_9 h9] at ha; cases ha
    · exact h
  obtain ⟨k1, k2, h1, h2, h3⟩ := hk1
  have hle := walk_le _ _ _ h1
  rw [ops_len] at hle
  have hlen : r.length = k1 + k2 := by rw [List.length_cons] at h3; omega
  have hdep : dep (opsN (d :: r)) = max (dep (opsN r)) (dep ((opsN r).drop k1)) + 1 := by
    rw [show opsN (d :: r) = d.1 :: opsN r from rfl, dep, arN_9 h9]
    show max (dep (opsN r)) (dep (List.drop ((walk (opsN r) 1).getD 0) (opsN r))) + 1 = _
    rw [h1, Option.getD_some]
  have htd : opsN r = opsN (r.take k1) ++ opsN (r.drop k1) := by rw [← ops_app, List.take_append_drop]
  have htk : opsN (r.take k1) = (opsN r).take k1 := by unfold opsN; rw [List.map_take]
  have hwt : walk (opsN (r.take k1)) 1 = some k1 := by rw [htk]; exact walk_take _ _ _ h1
  have hdt : dep (opsN r) = dep (opsN (r.take k1)) := by
    rw [htd]
    exact dep_app _ _ _ (Nat.le_refl _) ⟨k1, hwt⟩
  have hFt : FlatAll (r.take k1) := fun x hx => hF x (List.mem_cons_of_mem _ (List.mem_of_mem_take hx))
  have hFd : FlatAll (r.drop k1) := fun x hx => hF x (List.mem_cons_of_mem _ (List.mem_of_mem_drop hx))
  have hlt : (r.take k1).length = k1 := by rw [List.length_take]; omega
  have hld : (r.drop k1).length = k2 := by rw [List.length_drop]; omega
  rw [List.length_cons] at hl
  refine ⟨k1, hle, walk_pos _ _ _ h1, ?_, ⟨⟨⟨by rw [hwt, hlt], by omega⟩, fun i hi => (hFt _ (nth_mem hi)).1, by omega⟩, hFt, e0, e1⟩, ⟨⟨⟨by rw [ops_dropL, h2, hld], by omega⟩, fun i hi => (hFd _ (nth_mem hi)).1, by rw [ops_dropL]; omega⟩, hFd, e0, e1⟩, fun i n => ?_⟩
  · unfold resE
    rw [show (opsN (d :: r)).drop 1 = opsN r from rfl, h1]
  · rw [AtS, if_neg (by omega), if_neg (by omega), if_neg (by omega), if_pos h9, h1, Option.getD_some]
    congr 1
    have := atS_app ep (r.drop k1) _ (r.take k1) (Nat.le_refl _) ⟨k1, hwt⟩ i (WN d n ep)
    rw [List.take_append_drop] at this
    exact this
end Go.Proofs.Ytggmomkohmcciaa.F
