/- The law BestKeeps, in plain Lean: what is kept of any steps, so many at most, are those ahead of which fewer others stand, in order. -/
import Derived.Test.YtggmomkohmcciacVx4
import Derived.Test.YtggmomkohmcciacP32CBestKeeps
import Derived.Test.YtggmomkohmcciacC32
set_option linter.unusedVariables false
set_option linter.unusedSimpArgs false
namespace Go.Proofs.Ytggmomkohmcciac.F
open Go.VX
open Classical
theorem same32 (a : List KpD) (hl : a.length ≤ 9223372036854775807) : regimenref32_Same (a, a, ()) = some true := by
  unfold regimenref32_Same
  rcases eq_loop (eqT (.pr (.int .i64) (.pr (.int .i64) .unit))) (eqT_iff _ rfl) a a rfl hl false (fun _ => some true) with ⟨h1, h2⟩ | ⟨h1, h2⟩
  · dsimp only
    rw [decide_eq_true rfl]
    exact h2
  · exact (h1 rfl).elim
theorem rises {l : List KpD} (h : ∀ i, 0 < i → i < l.length → (nth zKp l (i - 1)).1 < (nth zKp l i).1) : ∀ b a, a < b → b < l.length → (nth zKp l a).1 < (nth zKp l b).1
  | 0, a, ha, hb => by omega
  | b + 1, a, ha, hb => by
    have h1 := h (b + 1) (by omega) hb
    rw [Nat.add_sub_cancel] at h1
    by_cases hab : a = b
    · subst hab; exact h1
    · have := rises h b a (by omega) (by omega)
      omega
theorem kept_ok {l : List KpD} {most : Bool} {count : Int} {out : List KpD} (hc : 0 ≤ count) (h : KeptR l most count.toNat l.length out) (hi : ∀ i, 0 < i → i < l.length → (nth zKp l (i - 1)).1 < (nth zKp l i).1) : KeptOk out count most := by
  refine ⟨fun i hil => ⟨fun k hk e => ?_, fun h0 => ?_⟩, ?_⟩
  · obtain ⟨a, a1, a2, a3⟩ := h.2 k (by omega)
    obtain ⟨b, b1, b2, b3⟩ := h.2 i hil
    rw [a3, b3] at e
    rcases Nat.lt_trichotomy a b with c | c | c
    · have := rises hi b a c b1; omega
    · subst c; omega
    · have := rises hi a b c a1; omega
  · obtain ⟨a, a1, a2, a3⟩ := h.2 (i - 1) (by omega)
    obtain ⟨b, b1, b2, b3⟩ := h.2 i hil
    rw [a3, b3]
    have hab : a ≠ b := fun e => by subst e; omega
    have hn : ¬ Bf l most b a := fun k => by have := rk_lt l most b1 k; omega
    have hy : Bf l most a b := (bf_tot l most hab).resolve_right hn
    refine ⟨fun k => hn (.inl k), fun k => ?_⟩
    rcases hy with k1 | ⟨_, k1⟩
    · unfold AheadB at k1
      cases most
      · simp only [Bool.false_eq_true, if_false] at k1; omega
      · simp only [if_true] at k1; omega
    · have := rises hi b a k1 b1; omega
  · rw [h.1]; omega
theorem pure_BestKeeps (x : Ty.D (.tu T22 T48)) (h : Ty.wf (.tu T22 T48) x) : regimenlaw32_BestKeeps x = some true := by
  obtain ⟨l, count, most, _⟩ := x
  obtain ⟨hl, hc, _⟩ := h
  change List KpD at l
  change Int at count
  change Bool at most
  have hr : KRange l := fun x hx => ⟨(hl.2 x hx).2.1.1, (hl.2 x hx).2.1.2⟩
  have hc2 : count ≤ 9223372036854775807 := hc.2
  unfold regimenlaw32_BestKeeps
  dsimp only
  rw [aw_regimenlaw32_awake]
  by_cases h30 : (l.length : Int) > 30
  · rw [decide_eq_true h30]; rfl
  rw [decide_eq_false h30, cnd_f]
  obtain ⟨out, e1, h1⟩ := p_BestOf l count most (by omega) hr hc2
  have hol := h1.1
  rw [e1, r_Best l most (by omega) count out h1]
  simp only [bnd_mk]
  rw [same32 out (by omega)]
  simp only [bnd_mk, Bool.not_true, cnd_f]
  by_cases hall : ∀ i : Int, 0 ≤ i → i < l.length → ¬ (0 < i ∧ (nth zKp l i.toNat).1 ≤ (nth zKp l (i.toNat - 1)).1)
  · refine scan_eq (fun i => ¬ (0 < i ∧ (nth zKp l i.toNat).1 ≤ (nth zKp l (i.toNat - 1)).1)) 0 l.length (by omega) _ _ (fun _ => true) _ (fun i i0 i1 => ?_) ?_ (.inr ⟨hall, ?_⟩)
    · obtain ⟨k, rfl⟩ : ∃ k : Nat, i = k := ⟨i.toNat, by omega⟩
      have hk : k < l.length := by omega
      dsimp only
      rw [Int.toNat_natCast, lt_true hk, cnd_t, ati_d zKp hk, wr_succ hk (by omega)]
      refine ⟨fun h => ?_, fun h => (h (by have := hall k (by omega) (by omega); rwa [Int.toNat_natCast] at this)).elim⟩
      by_cases h0 : (k : Int) > 0
      · rw [decide_eq_true h0, cnd_t, bnd_mk, wr_id (x := (k : Int) - 1) (by omega) (by omega), show (k : Int) - 1 = ((k - 1 : Nat) : Int) by omega, ati_d zKp (by omega), bnd_mk, decide_eq_false (fun h5 => h ⟨h0, h5⟩)]
        rfl
      · rw [decide_eq_false h0]; rfl
    · dsimp only
      rw [lt_false]; rfl
    · have hinc : ∀ i, 0 < i → i < l.length → (nth zKp l (i - 1)).1 < (nth zKp l i).1 := fun i i0 i1 => by
        have := hall (i : Int) (by omega) (by omega)
        rw [Int.toNat_natCast] at this
        by_cases hlt : (nth zKp l (i - 1)).1 < (nth zKp l i).1
        · exact hlt
        · exact (this ⟨by omega, by omega⟩).elim
      by_cases hneg : count < 0
      · rw [decide_eq_true hneg]; rfl
      · rw [decide_eq_false hneg, p_bestcheck out count most (by omega) (kept_range h1 (Nat.le_refl _) hr), decide_eq_true (kept_ok (by omega) h1 hinc)]
        rfl
  · obtain ⟨i, i0, i1, i2, i3⟩ : ∃ i : Int, 0 ≤ i ∧ i < l.length ∧ ¬ ¬ (0 < i ∧ (nth zKp l i.toNat).1 ≤ (nth zKp l (i.toNat - 1)).1) ∧ ∀ j, 0 ≤ j → j < i → ¬ (0 < j ∧ (nth zKp l j.toNat).1 ≤ (nth zKp l (j.toNat - 1)).1) := by
      rcases first_or (fun i => ¬ (0 < i ∧ (nth zKp l i.toNat).1 ≤ (nth zKp l (i.toNat - 1)).1)) 0 l.length with h | h
      · exact h
      · exact (hall h).elim
    refine scan_eq (fun i => ¬ (0 < i ∧ (nth zKp l i.toNat).1 ≤ (nth zKp l (i.toNat - 1)).1)) 0 l.length (by omega) _ _ (fun _ => true) _ (fun i i0 i1 => ?_) ?_ (.inl ⟨i, i0, i1, i2, i3, rfl⟩)
    · obtain ⟨k, rfl⟩ : ∃ k : Nat, i = k := ⟨i.toNat, by omega⟩
      have hk : k < l.length := by omega
      dsimp only
      rw [Int.toNat_natCast, lt_true hk, cnd_t, ati_d zKp hk, wr_succ hk (by omega)]
      by_cases h0 : (k : Int) > 0
      · rw [decide_eq_true h0, cnd_t, bnd_mk, wr_id (x := (k : Int) - 1) (by omega) (by omega), show (k : Int) - 1 = ((k - 1 : Nat) : Int) by omega, ati_d zKp (by omega), bnd_mk]
        refine ⟨fun h => ?_, fun h => ?_⟩
        · rw [decide_eq_false (fun h5 => h ⟨h0, h5⟩)]; rfl
        · rw [decide_eq_true (Classical.not_not.1 h).2]; rfl
      · rw [decide_eq_false h0]
        exact ⟨fun h => rfl, fun h => (h0 (Classical.not_not.1 h).1).elim⟩
    · dsimp only
      rw [lt_false]; rfl
end Go.Proofs.Ytggmomkohmcciac.F
