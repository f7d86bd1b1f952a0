/- Other plans under a run: a state under its own plan. -/
import Derived.Test.YtggmomkohmcciabP60SwapSelf
set_option linter.unusedVariables false
set_option linter.unusedSimpArgs false
namespace Go.Proofs.Ytggmomkohmcciab.F
open Go.VX
open Classical
theorem kept_mono {l : List KpD} {most : Bool} {count : Int} (h : KeptOk l count most) : ∀ i k, k ≤ i → i < l.length → if most = true then (nth zKp l i).2.1 ≤ (nth zKp l k).2.1 else (nth zKp l k).2.1 ≤ (nth zKp l i).2.1
  | 0, k, hk, hi => by
    have : k = 0 := by omega
    subst this
    split <;> omega
  | i + 1, k, hk, hi => by
    by_cases hki : k = i + 1
    · subst hki
      split <;> omega
    · have ih := kept_mono h i k (by omega) (by omega)
      have hs := ((h.1 (i + 1) hi).2 (by omega)).1
      rw [Nat.add_sub_cancel] at hs
      unfold AheadB at hs
      cases most
      · simp only [Bool.false_eq_true, if_false] at *; omega
      · simp only [if_true] at *; omega
theorem kept_rank {l : List KpD} {most : Bool} {count : Int} (h : KeptOk l count most) (i : Nat) (hi : i < l.length) : ∀ n, n ≤ l.length → rk l most i n = min n i
  | 0, _ => by simp [rk]
  | n + 1, hn => by
    have ih := kept_rank h i hi n (by omega)
    have fwd : ∀ a b, a < b → b < l.length → Bf l most a b := fun a b hab hb => by
      have := kept_mono h b a (by omega) hb
      unfold Bf AheadB
      cases most
      · simp only [Bool.false_eq_true, if_false] at *; omega
      · simp only [if_true] at *; omega
    simp only [rk]
    rw [ih]
    by_cases h1 : n < i
    · rw [if_pos (fwd n i h1 hi)]; omega
    · have : ¬ Bf l most n i := fun k => by
        by_cases h2 : n = i
        · subst h2; exact bf_irr l most _ k
        · exact bf_irr l most i (bf_tr l most (fwd i n (by omega) (by omega)) k)
      rw [if_neg this]; omega
theorem kept_self {l : List KpD} {most : Bool} {count : Int} (h : KeptOk l count most) {out : List KpD} (ho : KeptR l most count.toNat l.length out) : out = l := by
  have hl := h.2
  have ho1 := ho.1
  refine nth_ext zKp (by omega) fun p hp => ?_
  obtain ⟨i, i1, i2, i3⟩ := ho.2 p hp
  rw [kept_rank h i i1 l.length (Nat.le_refl _)] at i2
  rw [i3, show i = p by omega]
theorem sums_none (from' : Int) : ∀ n, sumsF from' 0 n = 0
  | 0 => rfl
  | n + 1 => by
    unfold sumsF
    rw [sums_none from' n, if_neg (fun h => by have := h.1; omega)]
    rfl
theorem turn_self (p : PlanD) (s : StateD) (hp : PlanOkD p) (h : StateOkD p s) (h0 : s.2.1 = 0) (ke : List KeptD) (hk : onK p ≠ -1 → KeptR s.2.2.2.2.2.1 (keepM p) (keepN p).toNat s.2.2.2.2.2.1.length ke) : turnS p s ke = s := by
  have h1 := status0 h h0
  obtain ⟨_, hs, hc, hkk, ha⟩ := h
  clear hp
  obtain ⟨a0, a1, a2, a3, a4, sp, fz, tr, ps, pc, ⟨kOn, kM, kX, kN, _⟩, ⟨eOn, eD, _⟩, on1, on2, on3, sf, se, _⟩ := p
  obtain ⟨n1, n2, n3, st, cu, kk, em, ⟨sw1, sw2, _⟩, _⟩ := s
  unfold StopSt at hs
  unfold CutSt at hc
  unfold KeptSt at hkk
  unfold AvgSt at ha
  dsimp only [onS, onC, onK, emaOn, swaE, keepN, keepM] at *
  subst h0 h1
  unfold turnS
  dsimp only [onS, onC, onK, emaOn, swaE]
  have e1 : cnd (decide (on1 = -1)) (false, 0, 0, ()) st = st := by
    rcases hs with ⟨k1, k2⟩ | ⟨k1, _⟩
    · rw [decide_eq_true k1]
      exact ((eqT_iff _ rfl _ _).1 k2).symm
    · rw [decide_eq_false k1]; rfl
  have e2 : cnd (decide (on2 = -1)) ((false, 0, 0, ()), 0, 4294967296, ()) cu = cu := by
    rcases hc with ⟨k1, k2⟩ | ⟨k1, _⟩
    · rw [decide_eq_true k1]
      exact ((eqT_iff _ rfl _ _).1 k2).symm
    · rw [decide_eq_false k1]; rfl
  have e3 : cnd (decide (on3 = -1)) [] ke = kk := by
    rcases hkk with ⟨k1, k2⟩ | ⟨k1, _, k3, _⟩
    · rw [decide_eq_true k1]
      exact (List.eq_nil_of_length_eq_zero k2).symm
    · rw [decide_eq_false k1]
      exact kept_self k3 (hk k1)
  have e4 : cnd eOn em [] = em := by
    cases eOn with
    | true => rfl
    | false =>
      have := ha.1
      rw [if_neg (fun h => Bool.false_ne_true h.1)] at this
      exact (List.eq_nil_of_length_eq_zero (by omega)).symm
  have e5 : cnd (decide (se = 0)) (0, [], ()) (sw1, sw2, ()) = (sw1, sw2, ()) := by
    by_cases h5 : se = 0
    · rw [decide_eq_true h5]
      subst h5
      have a1 := ha.2.1
      have a2 := ha.2.2
      rw [sums_none] at a1 a2
      rw [if_neg (by omega)] at a2
      have : sw2 = [] := List.eq_nil_of_length_eq_zero (by omega)
      rw [a1, this]
      rfl
    · rw [decide_eq_false h5]; rfl
  rw [e1, e2, e3, e4]
  rw [show cnd (decide (se = 0)) (0, [], ()) (sw1, sw2, _) = _ from e5]
end Go.Proofs.Ytggmomkohmcciab.F
