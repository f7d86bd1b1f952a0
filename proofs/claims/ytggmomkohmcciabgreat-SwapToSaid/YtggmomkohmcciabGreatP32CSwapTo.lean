/- Steps that are kept: the reference's answer. -/
import Derived.Test.YtggmomkohmcciabGreatP32BSwapTo
set_option linter.unusedVariables false
set_option linter.unusedSimpArgs false
namespace Go.Proofs.YtggmomkohmcciabGreat.F
open Go.VX
open Classical
theorem r_rank (l : List KpD) (most : Bool) (hl : l.length ≤ 1000) (i : Nat) (hi : i < l.length) (f : Int × Int × Unit → Option ((Int × Int × Unit) ⊕ (Int × Unit)))
    (hf : f = fun (s7 : Int × Int × Unit) => cnd (decide (s7.2.1 < (l.length : Int))) (bnd (ati l s7.2.1) fun v8 => bnd (ati l (i : Int)) fun v9 => bnd (regimenref32_Ahead (v8, v9, most, ())) fun r10 => bnd (cnd (!r10) (bnd (ati l s7.2.1) fun v11 => bnd (ati l (i : Int)) fun v12 => bnd (cnd (decide (v11.2.1 = v12.2.1)) (some (decide (s7.2.1 < (i : Int)))) (some false)) fun j13 => some j13) (some true)) fun j14 => bnd (cnd j14 (some (wr .i64 (s7.1 + 1), ())) (some (s7.1, ()))) fun j15 => inlE (j15.1, wr .i64 (s7.2.1 + 1), ())) (inrE (some (s7.1, ())))) :
    loopP f (0, 0, ()) = some ((rk l most i l.length : Int), ()) := by
  have key : ∀ k, k ≤ l.length → loopP f (0, 0, ()) = loopP f ((rk l most i k : Int), (k : Int), ()) := by
    intro k
    induction k with
    | zero => intro _; rfl
    | succ k ih =>
      intro hk
      have hle := rk_le l most i k
      rw [ih (by omega)]
      refine loopP_step ?_
      rw [hf]
      dsimp only
      rw [lt_true hk, cnd_t, ati_d zKp hk, ati_d zKp hi, wr_succ hk (by omega), wr_id (x := (rk l most i k : Int) + 1) (by omega) (by omega)]
      simp only [bnd_mk, r_ahead]
      have hb : (bnd (cnd (!decide (AheadB most (nth zKp l k) (nth zKp l i))) (bnd (cnd (decide ((nth zKp l k).2.1 = (nth zKp l i).2.1)) (some (decide ((k : Int) < (i : Int)))) (some false)) fun j13 => some j13) (some true)) fun j14 => bnd (cnd j14 (some ((rk l most i k : Int) + 1, ())) (some ((rk l most i k : Int), ()))) fun j15 => (inlE (j15.1, ((k + 1 : Nat) : Int), ()) : Option ((Int × Int × Unit) ⊕ (Int × Unit)))) = some (.inl ((rk l most i (k + 1) : Int), ((k + 1 : Nat) : Int), ())) := by
        simp only [rk]
        by_cases h1 : AheadB most (nth zKp l k) (nth zKp l i)
        · rw [decide_eq_true h1, if_pos (show Bf l most k i from Or.inl h1)]; rfl
        · rw [decide_eq_false h1]
          by_cases h2 : (nth zKp l k).2.1 = (nth zKp l i).2.1
          · rw [decide_eq_true h2]
            by_cases h3 : k < i
            · rw [decide_eq_true (by omega : (k : Int) < (i : Int)), if_pos (show Bf l most k i from Or.inr ⟨h2, h3⟩)]; rfl
            · rw [decide_eq_false (by omega : ¬ (k : Int) < (i : Int)), if_neg (show ¬ Bf l most k i from fun h => h.elim h1 (fun h => h3 h.2))]; rfl
          · rw [decide_eq_false h2, if_neg (show ¬ Bf l most k i from fun h => h.elim h1 (fun h => h2 h.1))]; rfl
      exact hb
  rw [key _ (Nat.le_refl _)]
  refine loopP_done ?_
  rw [hf]
  dsimp only
  rw [lt_false]; rfl
theorem r_Best (l : List KpD) (most : Bool) (hl : l.length ≤ 1000) (count : Int) (out : List KpD) (h : KeptR l most count.toNat l.length out) : regimenref32_Best (l, count, most, ()) = some out := by
  have row : ∀ (p : Nat) (hp : p < out.length) (g : List KpD × Int × Unit → Option ((List KpD × Int × Unit) ⊕ (List KpD × Unit))),
      (g = fun (s5 : List KpD × Int × Unit) => cnd (decide (s5.2.1 < (l.length : Int))) (bnd (loopP (fun (s7 : Int × Int × Unit) => cnd (decide (s7.2.1 < (l.length : Int))) (bnd (ati l s7.2.1) fun v8 => bnd (ati l s5.2.1) fun v9 => bnd (regimenref32_Ahead (v8, v9, most, ())) fun r10 => bnd (cnd (!r10) (bnd (ati l s7.2.1) fun v11 => bnd (ati l s5.2.1) fun v12 => bnd (cnd (decide (v11.2.1 = v12.2.1)) (some (decide (s7.2.1 < s5.2.1))) (some false)) fun j13 => some j13) (some true)) fun j14 => bnd (cnd j14 (some (wr .i64 (s7.1 + 1), ())) (some (s7.1, ()))) fun j15 => inlE (j15.1, wr .i64 (s7.2.1 + 1), ())) (inrE (some (s7.1, ())))) (0, 0, ())) fun j6 => bnd (cnd (decide (j6.1 = (p : Int))) (bnd (ati l s5.2.1) fun v17 => bnd (app 8796093022208 s5.1 [v17]) fun v18 => some (v18, ())) (some (s5.1, ()))) fun j16 => inlE (j16.1, wr .i64 (s5.2.1 + 1), ())) (inrE (some (s5.1, ())))) →
      loopP g (out.take p, 0, ()) = some (out.take (p + 1), ()) := by
    intro p hp g hg
    obtain ⟨i0, h1, h2, h3⟩ := h.2 p hp
    have hol := h.1
    have key : ∀ i, i ≤ l.length → loopP g (out.take p, 0, ()) = loopP g (out.take p ++ (if i0 < i then [nth zKp l i0] else []), (i : Int), ()) := by
      intro i
      induction i with
      | zero => intro _; rw [if_neg (by omega), List.append_nil]; rfl
      | succ i ih =>
        intro hi
        rw [ih (by omega)]
        refine loopP_step ?_
        rw [hg]
        dsimp only
        rw [lt_true hi, cnd_t, r_rank l most hl i hi _ rfl, bnd_mk, ati_d zKp hi]
        dsimp only
        by_cases hr : rk l most i l.length = p
        · have : i = i0 := rk_inj l most hi h1 (hr.trans h2.symm)
          subst this
          rw [decide_eq_true (show (rk l most i l.length : Int) = (p : Int) by omega), if_neg (by omega), if_pos (by omega), cnd_t, bnd_mk, List.append_nil, app_ok (by rw [List.length_take, List.length_singleton]; omega), bnd_mk, bnd_mk, wr_succ hi (by omega)]
          rfl
        · have hne : i0 ≠ i := fun e => hr (e ▸ h2)
          rw [decide_eq_false (show ¬ (rk l most i l.length : Int) = (p : Int) by omega), cnd_f, bnd_mk, wr_succ hi (by omega)]
          by_cases h5 : i0 < i
          · rw [if_pos h5, if_pos (by omega)]; rfl
          · rw [if_neg h5, if_neg (by omega)]; rfl
    rw [key _ (Nat.le_refl _), if_pos h1]
    refine loopP_done ?_
    rw [hg]
    dsimp only
    rw [lt_false]
    have : out.take (p + 1) = out.take p ++ [nth zKp l i0] := by
      rw [List.take_add_one, ← h3]
      congr 1
      simp [nth, List.getD, hp]
    rw [this]
    rfl
  have hol := h.1
  unfold regimenref32_Best
  dsimp only
  have go : ∀ (F : List KpD × Int × Unit → Option ((List KpD × Int × Unit) ⊕ (List KpD × Unit))), (∀ p, p < out.length → F (out.take p, (p : Int), ()) = some (.inl (out.take (p + 1), (p : Int) + 1, ()))) → F (out, (out.length : Int), ()) = some (.inr (out, ())) → (bnd (loopP F ([], 0, ())) fun j1 => some j1.1) = some out := by
    intro F h1 h2
    have key : ∀ p, p ≤ out.length → loopP F ([], 0, ()) = loopP F (out.take p, (p : Int), ()) := by
      intro p
      induction p with
      | zero => intro _; rfl
      | succ p ih => intro hp; rw [ih (by omega), loopP_step (h1 p (by omega))]; rfl
    rw [key _ (Nat.le_refl _), List.take_length, loopP_done h2]
    rfl
  refine go _ (fun p hp => ?_) ?_
  · dsimp only
    rw [lt_true (show p < l.length by omega), decide_eq_true (by omega : (p : Int) < count), cnd_t, bnd_mk, cnd_t, row p hp _ rfl, bnd_mk, wr_id (x := (p : Int) + 1) (by omega) (by omega)]
    rfl
  · dsimp only
    by_cases h5 : out.length < l.length
    · rw [decide_eq_true (by omega : (out.length : Int) < (l.length : Int)), decide_eq_false (by omega : ¬ (out.length : Int) < count)]; rfl
    · rw [decide_eq_false (by omega : ¬ (out.length : Int) < (l.length : Int))]; rfl
end Go.Proofs.YtggmomkohmcciabGreat.F
