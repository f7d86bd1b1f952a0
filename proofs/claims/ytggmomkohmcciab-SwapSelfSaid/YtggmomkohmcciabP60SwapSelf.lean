/- Other plans under a run: a state, turned. -/
import Derived.Test.YtggmomkohmcciabP32BSwapSelf
import Derived.Test.YtggmomkohmcciabP37ESwapSelf
set_option linter.unusedVariables false
set_option linter.unusedSimpArgs false
namespace Go.Proofs.Ytggmomkohmcciab.F
open Go.VX
open Classical
abbrev keepN (q : PlanD) : Int := q.2.2.2.2.2.2.2.2.2.2.1.2.2.2.1
abbrev keepM (q : PlanD) : Bool := q.2.2.2.2.2.2.2.2.2.2.1.2.2.1
abbrev onS (q : PlanD) : Int := q.2.2.2.2.2.2.2.2.2.2.2.2.1
abbrev onC (q : PlanD) : Int := q.2.2.2.2.2.2.2.2.2.2.2.2.2.1
abbrev onK (q : PlanD) : Int := q.2.2.2.2.2.2.2.2.2.2.2.2.2.2.1
abbrev emaOn (q : PlanD) : Bool := q.2.2.2.2.2.2.2.2.2.2.2.1.1
abbrev swaE (q : PlanD) : Int := q.2.2.2.2.2.2.2.2.2.2.2.2.2.2.2.2.1
abbrev zSt6 : StateD := (0, 0, 0, (false, 0, 0, ()), ((false, 0, 0, ()), 0, 0, ()), [], [], (0, [], ()), ())
noncomputable def turnS (q : PlanD) (s : StateD) (ke : List KeptD) : StateD :=
  (s.1, 0, 0, cnd (decide (onS q = -1)) (false, 0, 0, ()) s.2.2.2.1, cnd (decide (onC q = -1)) ((false, 0, 0, ()), 0, 4294967296, ()) s.2.2.2.2.1, cnd (decide (onK q = -1)) [] ke,
    cnd (emaOn q) s.2.2.2.2.2.2.1 [], cnd (decide (swaE q = 0)) (0, [], ()) s.2.2.2.2.2.2.2.1, ())
theorem planD_on {q : PlanD} (h : PlanOkD q) : (onS q < 0 ↔ onS q = -1) ∧ (onC q < 0 ↔ onC q = -1) ∧ (onK q < 0 ↔ onK q = -1) ∧ (onK q ≠ -1 → keepN q ≤ 16) := by
  obtain ⟨_, _, _, _, h1, h2, h3, _⟩ := h
  dsimp only [onS, onC, onK, keepN]
  refine ⟨?_, ?_, ?_, ?_⟩
  · rcases h1 with ⟨a, _⟩ | ⟨a, ⟨b, _⟩, _⟩ <;> constructor <;> intro k <;> omega
  · rcases h2 with ⟨a, _⟩ | ⟨a, ⟨b, _⟩, _⟩ <;> constructor <;> intro k <;> omega
  · rcases h3 with ⟨a, _⟩ | ⟨a, ⟨b, _⟩, _⟩ <;> constructor <;> intro k <;> omega
  · intro k
    rcases h3 with ⟨a, _⟩ | ⟨_, _, _, a⟩
    · exact (k a).elim
    · exact a
theorem p_turned (q : PlanD) (s : StateD) (hq : PlanOkD q) (h0 : s.2.1 = 0) (h1 : s.2.2.1 = 0) (ke : List KeptD) (hk : onK q ≠ -1 → best_Of (s.2.2.2.2.2.1, keepN q, keepM q, ()) = some ke) : swap_turned (q, s, ()) = some (turnS q s ke) := by
  obtain ⟨o1, o2, o3, _⟩ := planD_on hq
  clear hq
  obtain ⟨n1, n2, n3, st, cu, kk, em, sw, _⟩ := s
  obtain ⟨a0, a1, a2, a3, a4, sp, fz, tr, ps, pc, ⟨kOn, kM, kX, kN, _⟩, ⟨eOn, eD, _⟩, on1, on2, on3, sf, se, _⟩ := q
  dsimp only [onS, onC, onK, emaOn, swaE, keepN, keepM] at o1 o2 o3 hk h0 h1
  subst h0 h1
  have d1 : decide (on1 < 0) = decide (on1 = -1) := decide_eq_decide.2 o1
  have d2 : decide (on2 < 0) = decide (on2 = -1) := decide_eq_decide.2 o2
  have d3 : decide (on3 < 0) = decide (on3 = -1) := decide_eq_decide.2 o3
  unfold swap_turned plat_New turnS
  dsimp only [onS, onC, onK, emaOn, swaE, keepN, keepM]
  rw [d1, d2, d3]
  by_cases c3 : on3 = -1
  · rw [decide_eq_true c3]
    generalize decide (on1 = -1) = b1
    generalize decide (on2 = -1) = b2
    generalize decide (se = 0) = b5
    cases b1 <;> cases b2 <;> cases eOn <;> cases b5 <;> rfl
  · rw [decide_eq_false c3]
    have hk' := hk c3
    generalize decide (on1 = -1) = b1
    generalize decide (on2 = -1) = b2
    generalize decide (se = 0) = b5
    cases b1 <;> cases b2 <;> simp only [bnd_mk, cnd_t, cnd_f, hk'] <;> cases eOn <;> cases b5 <;> rfl
theorem status0 {p : PlanD} {s : StateD} (h : StateOkD p s) (h0 : s.2.1 = 0) : s.2.2.1 = 0 := by
  have h1 : StatusOk _ _ _ _ _ _ _ := h.1
  unfold StatusOk at h1
  omega
theorem turn_ins {q : PlanD} {s : StateD} {ke : List KeptD} (h : InS s) (hk : ke.length ≤ 1000) (hr : KRange ke) : InS (turnS q s ke) := by
  unfold turnS
  refine ⟨h.step, ?_, ?_, ?_, ?_⟩
  · cases decide (onK q = -1)
    · show ke.length ≤ _; omega
    · show ([] : List KeptD).length ≤ _; simp
  · cases emaOn q
    · show ([] : List Int).length ≤ _; simp
    · exact h.el
  · cases decide (swaE q = 0)
    · exact h.sl
    · show ([] : List Int).length ≤ _; simp
  · cases decide (onK q = -1)
    · exact hr
    · intro x hx; cases hx
theorem p_SwapTo (p q : PlanD) (s : StateD) (wp : WfP p) (wq : WfP q) (h : InS s) (hl : s.2.2.2.2.2.1.length ≤ 30) : ∃ ke : List KeptD, ke.length ≤ 30 ∧ KRange ke ∧ (onK q ≠ -1 ∧ PlanOkD q → KeptR s.2.2.2.2.2.1 (keepM q) (keepN q).toNat s.2.2.2.2.2.1.length ke) ∧
    swap_To (p, q, s, ()) = some (if PlanOkD q ∧ PlanOkD p ∧ StateOkD p s then (if s.2.1 = 0 then (if StateOkD q (turnS q s ke) then (turnS q s ke, 0, ()) else (zSt6, 1, ())) else (zSt6, 10, ())) else (zSt6, 1, ())) := by
  unfold swap_To swap_check
  dsimp only
  rw [p_planD q wq, p_stateD p s wp h]
  by_cases hq : PlanOkD q
  rotate_left
  · exact ⟨[], by simp, (fun x hx => by cases hx), fun k => (hq k.2).elim, by rw [if_neg hq, if_neg (fun k : PlanOkD q ∧ PlanOkD p ∧ StateOkD p s => hq k.1)]; rfl⟩
  rw [if_pos hq]
  by_cases hp : PlanOkD p ∧ StateOkD p s
  rotate_left
  · obtain ⟨ke, k1, k2⟩ : ∃ ke, ke.length ≤ 30 ∧ KRange ke ∧ (onK q ≠ -1 → KeptR s.2.2.2.2.2.1 (keepM q) (keepN q).toNat s.2.2.2.2.2.1.length ke) := by
      by_cases ho : onK q = -1
      · exact ⟨[], by simp, (fun x hx => by cases hx), fun k => (k ho).elim⟩
      · obtain ⟨ke, _, k3⟩ := p_BestOf s.2.2.2.2.2.1 (keepN q) (keepM q) (by omega) h.kr (by have := (planD_on hq).2.2.2 ho; omega)
        exact ⟨ke, by rw [k3.1]; omega, kept_range k3 (Nat.le_refl _) h.kr, fun _ => k3⟩
    refine ⟨ke, k1, k2.1, fun k => k2.2 k.1, ?_⟩
    rw [if_neg hp, if_neg (fun k : PlanOkD q ∧ PlanOkD p ∧ StateOkD p s => hp k.2)]
    rfl
  rw [if_pos hp]
  obtain ⟨ke, k1, k2, k3, k4⟩ : ∃ ke : List KeptD, ke.length ≤ 30 ∧ KRange ke ∧ (onK q ≠ -1 → KeptR s.2.2.2.2.2.1 (keepM q) (keepN q).toNat s.2.2.2.2.2.1.length ke) ∧ (onK q ≠ -1 → best_Of (s.2.2.2.2.2.1, keepN q, keepM q, ()) = some ke) := by
    by_cases ho : onK q = -1
    · exact ⟨[], by simp, (fun x hx => by cases hx), fun k => (k ho).elim, fun k => (k ho).elim⟩
    · obtain ⟨ke, e1, k3⟩ := p_BestOf s.2.2.2.2.2.1 (keepN q) (keepM q) (by omega) h.kr (by have := (planD_on hq).2.2.2 ho; omega)
      exact ⟨ke, by rw [k3.1]; omega, kept_range k3 (Nat.le_refl _) h.kr, fun _ => k3, fun _ => e1⟩
  refine ⟨ke, k1, k2, fun k => k3 k.1, ?_⟩
  rw [if_pos ⟨hq, hp⟩]
  by_cases h0 : s.2.1 = 0
  rotate_left
  · rw [if_neg h0, decide_eq_false h0]; rfl
  rw [if_pos h0, decide_eq_true h0]
  simp only [bnd_mk, decide_true, Bool.not_true, Bool.not_false, cnd_t, cnd_f]
  rw [p_turned q s hq h0 (status0 hp.2 h0) ke k4, bnd_mk, p_stateD q _ wq (turn_ins h (by omega) k2), bnd_mk]
  by_cases hs : StateOkD q (turnS q s ke)
  · rw [if_pos ⟨hq, hs⟩, if_pos hs]; rfl
  · rw [if_neg (fun k => hs k.2), if_neg hs]; rfl
end Go.Proofs.Ytggmomkohmcciab.F
