/- How much there can be: what is watched. -/
import Derived.Test.YtgghhgbbbhncaaaP37DBoundTells
import Derived.Test.YtgghhgbbbhncaaaPZBoundTells
set_option linter.unusedVariables false
set_option linter.unusedSimpArgs false
namespace Go.Proofs.Ytgghhgbbbhncaaa.F
open Go.VX
open Classical

def delLen {α : Type} (m : List (Int × α)) (s : Int) : Nat := match Nat.blt (mpAt eqi m s) (List.length m) with | true => List.length m - 1 | false => List.length m
theorem del_nil {α : Type} (s : Int) : delLen ([] : List (Int × α)) s = 0 := rfl
theorem del_cons {α : Type} (k : Int) (v : α) (r : List (Int × α)) (s : Int) : delLen ((k, v) :: r) s = if s = k then r.length else delLen r s + 1 := by
  unfold delLen
  simp only [mpAt]
  by_cases h : s = k
  · rw [show eqi s k = true from decide_eq_true h, if_pos h]; rfl
  · rw [show eqi s k = false from decide_eq_false h, if_neg h]
    dsimp only
    rw [show Nat.blt (mpAt eqi r s + 1) ((k, v) :: r).length = Nat.blt (mpAt eqi r s) r.length from rfl]
    cases hb : Nat.blt (mpAt eqi r s) r.length with
    | true =>
      have : mpAt eqi r s < r.length := Nat.le_of_ble_eq_true hb
      dsimp only
      rw [List.length_cons]
      omega
    | false => rfl
def watchedF (o1 o2 o3 : Int) : Int := (if o3 ≠ -1 then 1 else 0) + (if o2 ≠ -1 ∧ o2 ≠ o3 then 1 else 0) + if o1 ≠ -1 ∧ o1 ≠ o2 ∧ o1 ≠ o3 then 1 else 0
theorem watched_del (o1 o2 o3 : Int) {α : Type} (v1 v2 v3 : α) : (delLen (mpPut (mpPut (mpPut ([] : List (Int × α)) (mpAt eqi ([] : List (Int × α)) o3) o3 v3) (mpAt eqi (mpPut ([] : List (Int × α)) (mpAt eqi ([] : List (Int × α)) o3) o3 v3) o2) o2 v2) (mpAt eqi (mpPut (mpPut ([] : List (Int × α)) (mpAt eqi ([] : List (Int × α)) o3) o3 v3) (mpAt eqi (mpPut ([] : List (Int × α)) (mpAt eqi ([] : List (Int × α)) o3) o3 v3) o2) o2 v2) o1) o1 v1) (-1) : Int) = watchedF o1 o2 o3 := by
  rw [mp_put_nil]
  unfold watchedF
  by_cases h : o2 = o3
  · subst h
    rw [mp_put_cons, if_pos rfl, mp_put_cons]
    by_cases h1 : o1 = o2
    · subst h1
      rw [if_pos rfl, del_cons, del_nil]
      simp only [List.length_nil]
      repeat' split
      all_goals omega
    · rw [if_neg h1, mp_put_nil, del_cons, del_cons, del_nil]
      simp only [List.length_nil, List.length_cons]
      repeat' split
      all_goals omega
  · rw [mp_put_cons, if_neg h, mp_put_nil, mp_put_cons]
    by_cases h1 : o1 = o3
    · subst h1
      rw [if_pos rfl, del_cons, del_cons, del_nil]
      simp only [List.length_nil, List.length_cons]
      repeat' split
      all_goals omega
    · rw [if_neg h1, mp_put_cons]
      by_cases h2 : o1 = o2
      · subst h2
        rw [if_pos rfl, del_cons, del_cons, del_nil]
        simp only [List.length_nil, List.length_cons]
        repeat' split
        all_goals omega
      · rw [if_neg h2, mp_put_nil, del_cons, del_cons, del_cons, del_nil]
        simp only [List.length_nil, List.length_cons]
        repeat' split
        all_goals omega
theorem watched_range (o1 o2 o3 : Int) : 0 ≤ watchedF o1 o2 o3 ∧ watchedF o1 o2 o3 ≤ 3 := by
  unfold watchedF
  repeat' split
  all_goals omega
theorem p_watched (p) (o1 o2 o3 : Int) (h1 : p.2.2.2.2.2.2.2.2.2.2.2.2.1 = o1) (h2 : p.2.2.2.2.2.2.2.2.2.2.2.2.2.1 = o2) (h3 : p.2.2.2.2.2.2.2.2.2.2.2.2.2.2.1 = o3) : bound_watched (p, ()) = some (watchedF o1 o2 o3) := by
  subst h1 h2 h3
  unfold bound_watched
  dsimp only
  rw [loopP_step (s' := ((1 : Int), (_, ()), ())) rfl, loopP_step (s' := ((2 : Int), (_, ()), ())) rfl, loopP_step (s' := ((3 : Int), (_, ()), ())) rfl, loopP_done rfl]
  rw [bnd_mk]
  dsimp only
  have key : ∀ (n : Nat) (W : Int), (n : Int) = W → 0 ≤ W ∧ W ≤ 3 → bnd (natI (Int.toNat (n : Int))) (fun v4 => some v4) = some W := by
    intro n W h hr
    rw [Int.toNat_natCast]
    unfold natI
    rw [show Nat.ble n 9223372036854775807 = true from Nat.ble_eq_true_of_le (by omega)]
    rw [← h]; rfl
  exact key _ _ (watched_del _ _ _ _ _ _) (watched_range _ _ _)
def cntF (o1 o2 o3 : Int) : Nat → Int
  | 0 => 0
  | n + 1 => cntF o1 o2 o3 n + if o3 = n ∨ o2 = n ∨ o1 = n then 1 else 0
theorem cnt_form (o1 o2 o3 : Int) (h1 : -1 ≤ o1) (h2 : -1 ≤ o2) (h3 : -1 ≤ o3) : ∀ n : Nat, cntF o1 o2 o3 n = (if o3 ≠ -1 ∧ o3 < n then 1 else 0) + (if (o2 ≠ -1 ∧ o2 ≠ o3) ∧ o2 < n then 1 else 0) + if (o1 ≠ -1 ∧ o1 ≠ o2 ∧ o1 ≠ o3) ∧ o1 < n then 1 else 0
  | 0 => by
    simp only [cntF]
    rw [if_neg (by omega), if_neg (by omega), if_neg (by omega)]; rfl
  | n + 1 => by
    simp only [cntF, cnt_form o1 o2 o3 h1 h2 h3 n]
    have key : ∀ (A : Prop) [Decidable A] (o : Int), (if A ∧ o < ((n + 1 : Nat) : Int) then (1 : Int) else 0) = (if A ∧ o < (n : Int) then 1 else 0) + if A ∧ o = n then 1 else 0 := by
      intro A _ o
      by_cases hA : A
      · repeat' split
        all_goals first | omega | (rename_i a b c; omega) | skip
        all_goals (exfalso; simp only [hA, true_and] at *; omega)
      · rw [if_neg (fun k => hA k.1), if_neg (fun k => hA k.1), if_neg (fun k => hA k.1)]; rfl
    rw [key, key, key]
    have e : (if o3 = n ∨ o2 = n ∨ o1 = n then (1 : Int) else 0) = (if o3 ≠ -1 ∧ o3 = n then 1 else 0) + (if (o2 ≠ -1 ∧ o2 ≠ o3) ∧ o2 = n then 1 else 0) + if (o1 ≠ -1 ∧ o1 ≠ o2 ∧ o1 ≠ o3) ∧ o1 = n then 1 else 0 := by
      by_cases c3 : o3 = n
      · rw [if_pos (.inl c3), if_pos ⟨by omega, c3⟩, if_neg (by omega), if_neg (by omega)]; rfl
      · by_cases c2 : o2 = n
        · rw [if_pos (.inr (.inl c2)), if_neg (fun k => c3 k.2), if_pos ⟨⟨by omega, by omega⟩, c2⟩, if_neg (by omega)]; rfl
        · by_cases c1 : o1 = n
          · rw [if_pos (.inr (.inr c1)), if_neg (fun k => c3 k.2), if_neg (fun k => c2 k.2), if_pos ⟨⟨by omega, by omega, by omega⟩, c1⟩]; rfl
          · rw [if_neg (by omega), if_neg (fun k => c3 k.2), if_neg (fun k => c2 k.2), if_neg (fun k => c1 k.2)]; rfl
    rw [e]
    omega
theorem cnt_nn (o1 o2 o3 : Int) : ∀ n : Nat, 0 ≤ cntF o1 o2 o3 n ∧ cntF o1 o2 o3 n ≤ n
  | 0 => by simp [cntF]
  | n + 1 => by
    have h := cnt_nn o1 o2 o3 n
    simp only [cntF]
    split <;> omega
theorem r_events (p) (a3 a2 se o1 o2 o3 : Int) (e3 : p.2.2.2.1 = a3) (e2 : p.2.2.1 = a2) (es : p.2.2.2.2.2.2.2.2.2.2.2.2.2.2.2.2.1 = se) (h1 : p.2.2.2.2.2.2.2.2.2.2.2.2.1 = o1) (h2 : p.2.2.2.2.2.2.2.2.2.2.2.2.2.1 = o2) (h3 : p.2.2.2.2.2.2.2.2.2.2.2.2.2.2.1 = o3)
    (g0 : 1 ≤ a3) (g1 : a3 ≤ 8) (m0 : 0 ≤ a2) (m1 : a2 ≤ 4) (r1 : -1 ≤ o1 ∧ (o1 = -1 ∨ o1 < a2)) (r2 : -1 ≤ o2 ∧ (o2 = -1 ∨ o2 < a2)) (r3 : -1 ≤ o3 ∧ (o3 = -1 ∨ o3 < a2)) :
    regimenref43_Events (p, ()) = some (2 + a3 + (if se ≠ 0 then 1 else 0) + 2 * (if o3 ≠ -1 then 1 else 0) + (if o2 ≠ -1 then 1 else 0) + (if o1 ≠ -1 then 1 else 0) + watchedF o1 o2 o3) := by
  subst e3 e2 es h1 h2 h3
  generalize q1 : p.2.2.2.2.2.2.2.2.2.2.2.2.1 = o1 at *
  generalize q2 : p.2.2.2.2.2.2.2.2.2.2.2.2.2.1 = o2 at *
  generalize q3 : p.2.2.2.2.2.2.2.2.2.2.2.2.2.2.1 = o3 at *
  generalize q4 : p.2.2.2.2.2.2.2.2.2.2.2.2.2.2.2.2.1 = se at *
  generalize q5 : p.2.2.2.1 = a3 at *
  generalize q6 : p.2.2.1 = a2 at *
  have one : ∀ P : Prop, ∀ d : Decidable P, regimenref43_one (!(@decide P d), ()) = some (if ¬ P then 1 else 0) := fun P d => by
    unfold regimenref43_one
    dsimp only
    by_cases h : P
    · rw [decide_eq_true h, if_neg (fun k => k h)]; rfl
    · rw [decide_eq_false h, if_pos h]; rfl
  unfold regimenref43_Events
  dsimp only
  rw [q1, q2, q3, q4, q5, q6, one, one, one, one]
  simp only [bnd_mk]
  have hB : ∃ B : Int, B = 2 + a3 + (if ¬ se = 0 then 1 else 0) + 2 * (if ¬ o3 = -1 then 1 else 0) + (if ¬ o2 = -1 then 1 else 0) + (if ¬ o1 = -1 then 1 else 0) ∧ 0 ≤ B ∧ B ≤ 100 ∧ (wr .i64 ((wr .i64 ((wr .i64 ((wr .i64 ((wr .i64 (2 + a3)) + (if ¬ se = 0 then 1 else 0))) + (wr .i64 (2 * (if ¬ o3 = -1 then 1 else 0))))) + (if ¬ o2 = -1 then 1 else 0))) + (if ¬ o1 = -1 then 1 else 0))) = B := by
    refine ⟨_, rfl, ?_⟩
    have one01 : ∀ (P : Prop) [Decidable P], (if P then (1 : Int) else 0) = 0 ∨ (if P then (1 : Int) else 0) = 1 := fun P _ => by split <;> simp
    have w1 := one01 (¬ se = 0)
    have w2 := one01 (¬ o3 = -1)
    have w3 := one01 (¬ o2 = -1)
    have w4 := one01 (¬ o1 = -1)
    generalize (if ¬ se = 0 then (1 : Int) else 0) = b1 at *
    generalize (if ¬ o3 = -1 then (1 : Int) else 0) = b2 at *
    generalize (if ¬ o2 = -1 then (1 : Int) else 0) = b3 at *
    generalize (if ¬ o1 = -1 then (1 : Int) else 0) = b4 at *
    refine ⟨by omega, by omega, ?_⟩
    rw [wr_id (x := 2 + a3) (by omega) (by omega), wr_id (x := 2 + a3 + b1) (by omega) (by omega), wr_id (x := 2 * b2) (by omega) (by omega), wr_id (x := 2 + a3 + b1 + 2 * b2) (by omega) (by omega), wr_id (x := 2 + a3 + b1 + 2 * b2 + b3) (by omega) (by omega), wr_id (x := 2 + a3 + b1 + 2 * b2 + b3 + b4) (by omega) (by omega)]
  obtain ⟨B, hB, b0, b1, hw⟩ := hB
  rw [hw]
  obtain ⟨m, rfl⟩ : ∃ m : Nat, a2 = m := ⟨a2.toNat, by omega⟩
  obtain ⟨r, e, h⟩ := loop_rule (ρ := Int × Unit) (f := (fun (s6 : Int × Int × Unit) => cnd (decide (s6.2.1 < (m : Int))) (bnd (cnd (!(decide (o3 = s6.2.1))) (some (decide (o2 = s6.2.1))) (some true)) fun j7 => bnd (cnd (!j7) (some (decide (o1 = s6.2.1))) (some true)) fun j8 => bnd (regimenref43_one (j8, ())) fun r9 => inlE (wr .i64 (s6.1 + r9), wr .i64 (s6.2.1 + 1), ())) (inrE (some (s6.1, ())))))
    (fun s => ∃ k : Nat, s.2.1 = k ∧ k ≤ m ∧ s.1 = B + cntF o1 o2 o3 k) (fun s => m - s.2.1.toNat) (fun r => r.1 = B + cntF o1 o2 o3 m) (fun s ⟨k, i0, i1, i2⟩ => by
      obtain ⟨c, i, _⟩ := s
      dsimp only at i0 i2 ⊢
      subst i0 i2
      have hn := cnt_nn o1 o2 o3 k
      by_cases hk : k < m
      · left
        rw [lt_true hk, cnd_t]
        have hj : ∀ {β : Type} (K : Bool → Option β), (bnd (cnd (!(decide (o3 = (k : Int)))) (some (decide (o2 = (k : Int)))) (some true)) fun j7 => bnd (cnd (!j7) (some (decide (o1 = (k : Int)))) (some true)) K) = K (decide (o3 = (k : Int) ∨ o2 = (k : Int) ∨ o1 = (k : Int))) := by
          intro β K
          by_cases c3 : o3 = (k : Int)
          · rw [decide_eq_true c3, decide_eq_true (.inl c3 : o3 = (k : Int) ∨ o2 = (k : Int) ∨ o1 = (k : Int))]; rfl
          · by_cases c2 : o2 = (k : Int)
            · rw [decide_eq_false c3, decide_eq_true c2, decide_eq_true (.inr (.inl c2) : o3 = (k : Int) ∨ o2 = (k : Int) ∨ o1 = (k : Int))]; rfl
            · by_cases c1 : o1 = (k : Int)
              · rw [decide_eq_false c3, decide_eq_false c2, decide_eq_true c1, decide_eq_true (.inr (.inr c1) : o3 = (k : Int) ∨ o2 = (k : Int) ∨ o1 = (k : Int))]; rfl
              · rw [decide_eq_false c3, decide_eq_false c2, decide_eq_false c1, decide_eq_false (by omega : ¬ (o3 = (k : Int) ∨ o2 = (k : Int) ∨ o1 = (k : Int)))]; rfl
        rw [hj]
        refine ⟨(B + cntF o1 o2 o3 (k + 1), ((k + 1 : Nat) : Int), ()), ?_, ⟨k + 1, rfl, hk, rfl⟩, by dsimp only; omega⟩
        simp only [cntF]
        by_cases c : o3 = (k : Int) ∨ o2 = (k : Int) ∨ o1 = (k : Int)
        · rw [decide_eq_true c, if_pos c, wr_succ hk (by omega)]
          unfold regimenref43_one
          dsimp only
          rw [cnd_t, bnd_mk, wr_id (by omega) (by omega), Int.add_assoc]; rfl
        · rw [decide_eq_false c, if_neg c, wr_succ hk (by omega)]
          unfold regimenref43_one
          dsimp only
          rw [cnd_f, bnd_mk, wr_id (by omega) (by omega), Int.add_assoc]; rfl
      · right
        have hkm : k = m := by omega
        subst hkm
        rw [lt_false, cnd_f]
        exact ⟨_, rfl, rfl⟩) (B, 0, ()) ⟨0, rfl, by omega, by simp [cntF]⟩
  rw [e, bnd_mk, h, hB, cnt_form o1 o2 o3 r1.1 r2.1 r3.1]
  have f : ∀ (A : Prop) [Decidable A] (o : Int), (A → o ≠ -1) → (o = -1 ∨ o < (m : Int)) → (if A ∧ o < (m : Int) then (1 : Int) else 0) = if A then 1 else 0 := fun A _ o h1 h2 => by
    by_cases hA : A
    · have := h1 hA
      rw [if_pos ⟨hA, by omega⟩, if_pos hA]
    · rw [if_neg (fun k => hA k.1), if_neg hA]
  rw [f _ o3 (fun h => h) r3.2, f _ o2 (fun h => h.1) r2.2, f _ o1 (fun h => h.1) r1.2]
  rfl
end Go.Proofs.Ytgghhgbbbhncaaa.F
