/- Budgets: values of a track, added up. -/
import Derived.Test.YtgghhgbbbhncaaaGreatPZBudgetOf
import Derived.Test.YtgghhgbbbhncaaaGreatPYBudgetOf
set_option linter.unusedVariables false
set_option linter.unusedSimpArgs false
namespace Go.Proofs.YtgghhgbbbhncaaaGreat.F
open Go.VX
open Classical

/-- The value that pieces have at a step: 0 where there is none. -/
noncomputable def valF (l : List SegD) (step : Int) : Int := match segs_At (l, step, ()) with
  | some r => r.1
  | none => 0
theorem bounds_q (c : CurveD) (h : CurveOk c) : 0 ≤ (BoundsS c).1 ∧ (BoundsS c).2.1 ≤ 4503599627370496 := by
  unfold BoundsS
  unfold CurveOk at h
  split
  · dsimp only; omega
  · split
    · dsimp only; omega
    · dsimp only; omega
theorem segs_val (l : List SegD) (step : Int) (hs : SegsOk l) (hl0 : 0 < l.length) (hl : l.length ≤ 4611686018427387903) : ∃ e, segs_At (l, step, ()) = some (valF l step, e, ()) ∧ 0 ≤ valF l step ∧ valF l step ≤ 4503599627370496 := by
  unfold valF
  rcases p_segat l step hs hl0 hl with ⟨i, v, h1, h2, _, _, _, h3, h4⟩ | ⟨_, h2, _⟩
  · have hb := bounds_q (nth zSeg l i).2.2.2.2.1 (hs i h1.1).1.2.2.2.2.2.1
    rw [h2]
    refine ⟨0, rfl, ?_, ?_⟩
    · dsimp only; omega
    · dsimp only; omega
  · rw [h2]
    exact ⟨8, rfl, by decide, by decide⟩
theorem seg_place (l : List SegD) (hs : SegsOk l) : ∀ i : Nat, i < l.length → (i : Int) < (nth zSeg l i).2.1
  | 0, h => by
    have k := (hs 0 h).1
    unfold SegOk at k
    omega
  | i + 1, h => by
    have k := seg_place l hs i (by omega)
    have k2 := hs (i + 1) h
    have k3 := k2.2 (by omega)
    rw [Nat.add_sub_cancel] at k3
    have k4 := k2.1
    unfold SegOk at k4
    omega
theorem seg_len (l : List SegD) (hs : SegsOk l) (n : Int) (hn : (nth zSeg l (l.length - 1)).2.1 = n) (h : n ≤ 1000000) : l.length ≤ 4611686018427387903 := by
  by_cases h0 : l.length = 0
  · omega
  · have := seg_place l hs (l.length - 1) (by omega)
    omega
/-- Values added up: so many from a step on. -/
noncomputable def sumV (l : List SegD) (a : Int) : Nat → Int
  | 0 => 0
  | n + 1 => sumV l a n + valF l (a + n)
theorem sumV_add (l : List SegD) (a : Int) (m : Nat) : ∀ n : Nat, sumV l a (m + n) = sumV l a m + sumV l (a + m) n
  | 0 => by simp [sumV]
  | n + 1 => by
    rw [← Nat.add_assoc]
    simp only [sumV, sumV_add l a m n]
    rw [show a + ((m + n : Nat) : Int) = a + m + n by omega]
    omega
theorem sumV_range (l : List SegD) (hs : SegsOk l) (hl0 : 0 < l.length) (hl : l.length ≤ 4611686018427387903) (a : Int) : ∀ n : Nat, 0 ≤ sumV l a n ∧ sumV l a n ≤ n * 4503599627370496
  | 0 => by simp [sumV]
  | n + 1 => by
    have h := sumV_range l hs hl0 hl a n
    obtain ⟨_, _, h1, h2⟩ := segs_val l (a + n) hs hl0 hl
    simp only [sumV]
    omega
theorem sumV_up (l : List SegD) (hs : SegsOk l) (hl0 : 0 < l.length) (hl : l.length ≤ 4611686018427387903) (a : Int) (m : Nat) : ∀ n : Nat, sumV l a m ≤ sumV l a (m + n) := by
  intro n
  rw [sumV_add]
  have := sumV_range l hs hl0 hl (a + m) n
  omega
theorem wu_id {x : Int} (h0 : 0 ≤ x) (h1 : x ≤ 18446744073709551615) : wr .u64 x = x := by
  show x % 18446744073709551616 = x
  exact Int.emod_eq_of_lt h0 (by omega)
theorem p_add (a b : Int) (a0 : 0 ≤ a) (b0 : 0 ≤ b) (h : a + b ≤ 18446744073709551615) : pair_Add ((0, a, ()), (0, b, ()), ()) = some ((0, a + b, ()), true, ()) := by
  unfold pair_Add
  dsimp only
  rw [wu_id (x := a + b) (by omega) h, decide_eq_false (by omega : ¬ a + b < a)]
  rfl

section
variable (a0 a1 a2 a3 a4 : Int) (sp : List SpanD) (fz : List (List Bool)) (tr : List TrackD) (st : StopD) (cu : CutD) (ke : KeepD) (em : Bool × Int × Unit) (o1 o2 o3 sf se : Int)
theorem p_value (t : Nat) (step : Int) (ht : t < tr.length) (hs : SegsOk (nth zTrack tr t).2.2.1) (hl0 : 0 < (nth zTrack tr t).2.2.1.length) (hl : (nth zTrack tr t).2.2.1.length ≤ 4611686018427387903) :
    budget_value ((a0, a1, a2, a3, a4, sp, fz, tr, st, cu, ke, em, o1, o2, o3, sf, se, ()), (t : Int), step, ()) = some (0, valF (nth zTrack tr t).2.2.1 step, ()) := by
  unfold budget_value
  dsimp only
  rw [ati_d zTrack ht, bnd_mk]
  obtain ⟨e, h, h1, h2⟩ := segs_val (nth zTrack tr t).2.2.1 step hs hl0 hl
  rw [h, bnd_mk, wu_id h1 (by omega)]
theorem p_budcheck (hp : PlanOk a0 a1 a2 a3 a4 sp fz tr st cu ke em o1 o2 o3 sf se) (hs : sp.length ≤ 9223372036854775807) (hf : fz.length ≤ 9223372036854775807) (ht : tr.length ≤ 9223372036854775807) (hg : ∀ t ∈ tr, t.2.2.1.length ≤ 9223372036854775807) (t : Nat) (hn : t < tr.length) (h0 : a0 ≤ 300) :
    budget_check ((a0, a1, a2, a3, a4, sp, fz, tr, st, cu, ke, em, o1, o2, o3, sf, se, ()), (t : Int), ()) = some 0 := by
  unfold budget_check
  dsimp only
  rw [p_plan _ _ _ _ _ _ _ _ _ _ _ _ _ _ _ _ _ hs hf ht hg, if_pos hp, decide_eq_false (by omega : ¬ (t : Int) < 0), decide_eq_false (by omega : ¬ (t : Int) ≥ (tr.length : Int)), decide_eq_false (by omega : ¬ a0 > 10000)]
  rfl
theorem p_budget (hp : PlanOk a0 a1 a2 a3 a4 sp fz tr st cu ke em o1 o2 o3 sf se) (hs : sp.length ≤ 9223372036854775807) (hf : fz.length ≤ 9223372036854775807) (ht : tr.length ≤ 9223372036854775807) (hg : ∀ t ∈ tr, t.2.2.1.length ≤ 9223372036854775807) (t : Nat) (hn : t < tr.length) (h0 : a0 ≤ 300)
    (hl : (nth zTrack tr t).2.2.1.length ≤ 4611686018427387903) (x y : Int) (hx : 0 ≤ x) (hxy : x ≤ y) (hy : y ≤ a0) :
    budget_Of ((a0, a1, a2, a3, a4, sp, fz, tr, st, cu, ke, em, o1, o2, o3, sf, se, ()), (t : Int), (x, y, ()), ()) = some ((0, sumV (nth zTrack tr t).2.2.1 x (y - x).toNat, ()), 0, ()) := by
  have htr := hp.2.2.2.1.1 t hn
  have hso := htr.2.2.1
  have hl0 := htr.2.2.2.1
  unfold budget_Of
  dsimp only
  rw [p_budcheck a0 a1 a2 a3 a4 sp fz tr st cu ke em o1 o2 o3 sf se hp hs hf ht hg t hn h0, decide_eq_false (by omega : ¬ x < 0), decide_eq_false (by omega : ¬ y < x), decide_eq_false (by omega : ¬ y > a0)]
  simp only [bnd_mk, decide_true, Bool.not_true, Bool.not_false, cnd_t, cnd_f]
  obtain ⟨r, e, h⟩ := loop_rule (ρ := (Int × Int × Unit) × Unit) (f := (fun (s6 : Int × (Int × (Int × Unit)) × Unit) => cnd (decide (s6.1 < y)) (bnd (budget_value ((a0, a1, a2, a3, a4, sp, fz, tr, st, cu, ke, em, o1, o2, o3, sf, se, ()), (t : Int), s6.1, ())) fun r7 => bnd (pair_Add (s6.2.1, r7, ())) fun r8 => inlE (wr .i64 (s6.1 + 1), r8.1, ())) (inrE (some (s6.2.1, ())))))
    (fun s => ∃ k : Nat, s = (x + k, (0, sumV (nth zTrack tr t).2.2.1 x k, ()), ()) ∧ x + k ≤ y) (fun s => (y - s.1).toNat) (fun r => r = ((0, sumV (nth zTrack tr t).2.2.1 x (y - x).toNat, ()), ())) (fun s ⟨k, hk, hle⟩ => by
      subst hk
      dsimp only
      by_cases hlt : x + (k : Int) < y
      · left
        have h1 := sumV_range (nth zTrack tr t).2.2.1 hso hl0 hl x k
        obtain ⟨_, _, h2, h3⟩ := segs_val (nth zTrack tr t).2.2.1 (x + k) hso hl0 hl
        rw [decide_eq_true hlt, cnd_t, p_value a0 a1 a2 a3 a4 sp fz tr st cu ke em o1 o2 o3 sf se t (x + k) hn hso hl0 hl, bnd_mk, p_add _ _ h1.1 h2 (by omega), bnd_mk, wr_id (x := x + (k : Int) + 1) (by omega) (by omega)]
        refine ⟨_, rfl, ⟨k + 1, ?_, by omega⟩, by dsimp only; omega⟩
        simp only [sumV]
        rw [show x + ((k + 1 : Nat) : Int) = x + (k : Int) + 1 by omega]
      · right
        rw [decide_eq_false hlt, cnd_f]
        refine ⟨_, rfl, ?_⟩
        rw [show (y - x).toNat = k by omega]) (x, (0, 0, ()), ()) ⟨0, by simp [sumV], by omega⟩
  rw [e, h]
  rfl
def Over (S mh ml : Int) : Prop := mh = 0 ∧ ml < S
theorem p_paircmp (S mh ml : Int) (h0 : 0 ≤ mh) : ∃ r, pair_Cmp ((0, S, ()), (mh, ml, ()), ()) = some r ∧ (r > 0 ↔ Over S mh ml) := by
  unfold pair_Cmp Over
  dsimp only
  by_cases h : mh = 0
  · subst h
    by_cases h1 : S = ml
    · subst h1
      rw [(eqT_iff (.pr (.int .u64) (.pr (.int .u64) .unit)) rfl (0, S, ()) (0, S, ())).2 rfl]
      exact ⟨0, rfl, by omega⟩
    · have hE : eqT (.pr (.int .u64) (.pr (.int .u64) .unit)) (0, S, ()) (0, ml, ()) = false := by
        cases hb : eqT (.pr (.int .u64) (.pr (.int .u64) .unit)) (0, S, ()) (0, ml, ()) with
        | false => rfl
        | true =>
          have := (eqT_iff (.pr (.int .u64) (.pr (.int .u64) .unit)) rfl (0, S, ()) (0, ml, ())).1 hb
          simp at this
          exact (h1 this).elim
      rw [hE, cnd_f]
      by_cases h2 : S < ml
      · rw [decide_eq_true h2]
        exact ⟨-1, rfl, by omega⟩
      · rw [decide_eq_false h2]
        exact ⟨1, rfl, by omega⟩
  · have hE : eqT (.pr (.int .u64) (.pr (.int .u64) .unit)) (0, S, ()) (mh, ml, ()) = false := by
      cases hb : eqT (.pr (.int .u64) (.pr (.int .u64) .unit)) (0, S, ()) (mh, ml, ()) with
      | false => rfl
      | true =>
        have := (eqT_iff (.pr (.int .u64) (.pr (.int .u64) .unit)) rfl (0, S, ()) (mh, ml, ())).1 hb
        simp at this
        exact (h this.1.symm).elim
    rw [hE, cnd_f, decide_eq_true (by omega : (0 : Int) < mh)]
    exact ⟨-1, rfl, by omega⟩
theorem p_reach (hp : PlanOk a0 a1 a2 a3 a4 sp fz tr st cu ke em o1 o2 o3 sf se) (hs : sp.length ≤ 9223372036854775807) (hf : fz.length ≤ 9223372036854775807) (ht : tr.length ≤ 9223372036854775807) (hg : ∀ t ∈ tr, t.2.2.1.length ≤ 9223372036854775807) (t : Nat) (hn : t < tr.length) (h0 : a0 ≤ 300)
    (hl : (nth zTrack tr t).2.2.1.length ≤ 4611686018427387903) (mh ml : Int) (hm : 0 ≤ mh) (hm2 : 0 ≤ ml) :
    ∃ n : Nat, budget_Reach ((a0, a1, a2, a3, a4, sp, fz, tr, st, cu, ke, em, o1, o2, o3, sf, se, ()), (t : Int), (mh, ml, ()), ()) = some ((n : Int), 0, ()) ∧ (n : Int) ≤ a0 ∧ ¬ Over (sumV (nth zTrack tr t).2.2.1 0 n) mh ml ∧ ((n : Int) < a0 → Over (sumV (nth zTrack tr t).2.2.1 0 (n + 1)) mh ml) := by
  have htr := hp.2.2.2.1.1 t hn
  have hso := htr.2.2.1
  have hl0 := htr.2.2.2.1
  have ha0 : 1 ≤ a0 := hp.1.1
  unfold budget_Reach
  dsimp only
  rw [p_budcheck a0 a1 a2 a3 a4 sp fz tr st cu ke em o1 o2 o3 sf se hp hs hf ht hg t hn h0]
  simp only [bnd_mk, decide_true, Bool.not_true, Bool.not_false, cnd_t, cnd_f]
  obtain ⟨r, e, h⟩ := loop_rule (ρ := Unit ⊕ (Int × Int × Unit)) (f := (fun (s3 : Int × (Int × (Int × Unit)) × Unit) => cnd (decide (s3.1 < a0)) (bnd (budget_value ((a0, a1, a2, a3, a4, sp, fz, tr, st, cu, ke, em, o1, o2, o3, sf, se, ()), (t : Int), s3.1, ())) fun r4 => bnd (pair_Add (s3.2.1, r4, ())) fun r5 => bnd (pair_Cmp (r5.1, (mh, ml, ()), ())) fun r6 => cnd (decide (r6 > 0)) (inrE (inrE (some (s3.1, 0, ())))) (inlE (wr .i64 (s3.1 + 1), r5.1, ()))) (inrE (inlE (())))))
    (fun s => ∃ k : Nat, s = ((k : Int), (0, sumV (nth zTrack tr t).2.2.1 0 k, ()), ()) ∧ (k : Int) ≤ a0 ∧ ¬ Over (sumV (nth zTrack tr t).2.2.1 0 k) mh ml) (fun s => (a0 - s.1).toNat)
    (fun r => (∃ k : Nat, r = .inr ((k : Int), 0, ()) ∧ (k : Int) < a0 ∧ ¬ Over (sumV (nth zTrack tr t).2.2.1 0 k) mh ml ∧ Over (sumV (nth zTrack tr t).2.2.1 0 (k + 1)) mh ml) ∨ (r = .inl () ∧ ¬ Over (sumV (nth zTrack tr t).2.2.1 0 a0.toNat) mh ml)) (fun s ⟨k, hk, hle, hov⟩ => by
      subst hk
      dsimp only
      by_cases hlt : (k : Int) < a0
      · have h1 := sumV_range (nth zTrack tr t).2.2.1 hso hl0 hl 0 k
        obtain ⟨_, _, h2, h3⟩ := segs_val (nth zTrack tr t).2.2.1 (k : Int) hso hl0 hl
        have hS : sumV (nth zTrack tr t).2.2.1 0 (k + 1) = sumV (nth zTrack tr t).2.2.1 0 k + valF (nth zTrack tr t).2.2.1 (k : Int) := by
          simp only [sumV, Int.zero_add]
        rw [decide_eq_true hlt, cnd_t, p_value a0 a1 a2 a3 a4 sp fz tr st cu ke em o1 o2 o3 sf se t (k : Int) hn hso hl0 hl, bnd_mk, p_add _ _ h1.1 h2 (by omega), bnd_mk, wr_id (x := (k : Int) + 1) (by omega) (by omega), ← hS]
        obtain ⟨c, e1, e2⟩ := p_paircmp (sumV (nth zTrack tr t).2.2.1 0 (k + 1)) mh ml hm
        dsimp only
        rw [e1, bnd_mk]
        by_cases hc : c > 0
        · right
          rw [decide_eq_true hc, cnd_t]
          exact ⟨_, rfl, .inl ⟨k, rfl, hlt, hov, e2.1 hc⟩⟩
        · left
          rw [decide_eq_false hc, cnd_f]
          exact ⟨_, rfl, ⟨k + 1, rfl, by omega, fun x => hc (e2.2 x)⟩, by dsimp only; omega⟩
      · right
        rw [decide_eq_false hlt, cnd_f]
        refine ⟨_, rfl, .inr ⟨rfl, ?_⟩⟩
        rw [show a0.toNat = k by omega]
        exact hov) (0, (0, 0, ()), ()) ⟨0, rfl, by omega, fun x => by
        have h2 : ml < 0 := x.2
        omega⟩
  rw [e]
  rcases h with ⟨k, rfl, h1, h2, h3⟩ | ⟨rfl, h1⟩
  · exact ⟨k, rfl, by omega, h2, fun _ => h3⟩
  · refine ⟨a0.toNat, ?_, by omega, h1, fun x => by omega⟩
    rw [bndS_l, Int.toNat_of_nonneg (by omega)]
end
theorem ex_val (step : Int) (h0 : 0 ≤ step) (h1 : step < 4) : valF [(0, 4, 0, 4, (1, 4294967296, 0, 0, ()), 0, 0, ())] step = 4294967296 := by
  have hl := exSegs_ok 4 4294967296 (by omega) (by omega) (by omega) (by omega)
  rcases p_segat _ step hl (by simp) (by simp) with ⟨i, v, a1, a2, _, _, a3, _⟩ | ⟨a1, _⟩
  · have hi : i = 0 := by have := a1.1; simp at this; exact this
    subst hi
    have hv : regimenref24_Value ((0, 4, 0, 4, (1, 4294967296, 0, 0, ()), 0, 0, ()), step, ()) = some 4294967296 := by
      unfold regimenref24_Value
      dsimp only
      rw [wr_id (x := step - 0) (by omega) (by omega), r_atS _ _ _ (by unfold CurveOk; dsimp only; omega) (by omega) (by omega) (by omega) (by omega)]
      rfl
    have hh : some v = some 4294967296 := a3.symm.trans hv
    unfold valF
    rw [show segs_At ([(0, 4, 0, 4, (1, 4294967296, 0, 0, ()), 0, 0, ())], step, ()) = _ from a2]
    exact Option.some.inj hh
  · exact (a1 0 ⟨by simp, h0, h1⟩).elim
theorem awake54 : regimenlaw54_awake () = some true := by
  have hp := exPlan 4 4294967296 0 0 (false, [], false, 0, ()) (-1) (by omega) (by omega) (by omega) (by omega) (by omega) (by omega) (by omega) (by omega) (keep_none _ _)
  have e1 := p_budget 4 0 0 1 0 _ _ _ _ _ _ _ _ _ _ _ _ hp (by simp) (by simp) (by simp) (fun t ht => by simp at ht; rcases ht with rfl | rfl | rfl <;> simp) 1 (by simp) (by omega) (by simp [nth]) 1 4 (by omega) (by omega) (by omega)
  have e2 := p_budget 4 0 0 1 0 _ _ _ _ _ _ _ _ _ _ _ _ hp (by simp) (by simp) (by simp) (fun t ht => by simp at ht; rcases ht with rfl | rfl | rfl <;> simp) 0 (by simp) (by omega) (by simp [nth]) 0 0 (by omega) (by omega) (by omega)
  obtain ⟨n, e3, h1, h2, h3⟩ := p_reach 4 0 0 1 0 _ _ _ _ _ _ _ _ _ _ _ _ hp (by simp) (by simp) (by simp) (fun t ht => by simp at ht; rcases ht with rfl | rfl | rfl <;> simp) 0 (by simp) (by omega) (by simp [nth]) 0 8589934592 (by omega) (by omega)
  have hS : ∀ k : Nat, k ≤ 4 → sumV [(0, 4, 0, 4, (1, 4294967296, 0, 0, ()), 0, 0, ())] 0 k = k * 4294967296 := by
    intro k
    induction k with
    | zero => intro _; simp [sumV]
    | succ k ih =>
      intro hk
      simp only [sumV, ih (by omega)]
      rw [ex_val _ (by omega) (by omega)]
      omega
  have hS2 : sumV [(0, 4, 0, 4, (1, 4294967296, 0, 0, ()), 0, 0, ())] 1 3 = 12884901888 := by
    simp only [sumV]
    rw [ex_val _ (by omega) (by omega), ex_val _ (by omega) (by omega), ex_val _ (by omega) (by omega)]
    rfl
  have hn : n = 2 := by
    have g1 : (n : Int) * 4294967296 ≤ 8589934592 := by
      have : ¬ Over (sumV [(0, 4, 0, 4, (1, 4294967296, 0, 0, ()), 0, 0, ())] 0 n) 0 8589934592 := h2
      rw [hS n (by omega)] at this
      unfold Over at this
      omega
    by_cases hlt : (n : Int) < 4
    · have : Over (sumV [(0, 4, 0, 4, (1, 4294967296, 0, 0, ()), 0, 0, ())] 0 (n + 1)) 0 8589934592 := h3 hlt
      rw [hS (n + 1) (by omega)] at this
      unfold Over at this
      omega
    · omega
  subst hn
  unfold regimenlaw54_awake budget_Mean
  dsimp only
  rw [show budget_Of ((4, 0, 0, 1, 0, [(0, 4, ())], [[false]], [(0, 0, [(0, 4, 0, 4, (1, 4294967296, 0, 0, ()), 0, 0, ())], ()), (0, 1, [(0, 4, 0, 4, (1, 4294967296, 0, 0, ()), 0, 0, ())], ()), (0, 2, [(0, 4, 0, 4, (1, 4294967296, 0, 0, ()), 0, 0, ())], ())], (false, [], false, 0, 0, false, ()), (false, [], false, 0, 0, 0, 0, 0, ()), (false, [], false, 0, ()), (false, 0, ()), (-1), (-1), (-1), 0, 0, ()), 1, (1, 4, ()), ()) = some ((0, 12884901888, ()), 0, ()) from by rw [← hS2]; exact e1,
    show budget_Of ((4, 0, 0, 1, 0, [(0, 4, ())], [[false]], [(0, 0, [(0, 4, 0, 4, (1, 4294967296, 0, 0, ()), 0, 0, ())], ()), (0, 1, [(0, 4, 0, 4, (1, 4294967296, 0, 0, ()), 0, 0, ())], ()), (0, 2, [(0, 4, 0, 4, (1, 4294967296, 0, 0, ()), 0, 0, ())], ())], (false, [], false, 0, 0, false, ()), (false, [], false, 0, 0, 0, 0, 0, ()), (false, [], false, 0, ()), (false, 0, ()), (-1), (-1), (-1), 0, 0, ()), 0, (0, 0, ()), ()) = some ((0, 0, ()), 0, ()) from e2,
    show budget_Reach ((4, 0, 0, 1, 0, [(0, 4, ())], [[false]], [(0, 0, [(0, 4, 0, 4, (1, 4294967296, 0, 0, ()), 0, 0, ())], ()), (0, 1, [(0, 4, 0, 4, (1, 4294967296, 0, 0, ()), 0, 0, ())], ()), (0, 2, [(0, 4, 0, 4, (1, 4294967296, 0, 0, ()), 0, 0, ())], ())], (false, [], false, 0, 0, false, ()), (false, [], false, 0, 0, 0, 0, 0, ()), (false, [], false, 0, ()), (false, 0, ()), (-1), (-1), (-1), 0, 0, ()), 0, (0, 8589934592, ()), ()) = some (2, 0, ()) from e3]
  rw [bnd_mk, bnd_mk, bnd_mk]
  dsimp only
  rw [decide_eq_true rfl, Bool.not_true, cnd_f, show wr .u64 (wr .i64 ((0 : Int) - 0)) = 0 from rfl, p_near 0 0 0 (by omega) (by omega) (by omega) (by omega) (by omega) (by omega)]
  rfl
end Go.Proofs.YtgghhgbbbhncaaaGreat.F
