/- The law SwapTo, in plain Lean: any state under any other plan, or why it is not; what is swapped may be, of the other plan. -/
import Derived.Test.YtggmomkohmcciabGreatVx4
import Derived.Test.YtggmomkohmcciabGreatP60SwapTo
import Derived.Test.YtggmomkohmcciabGreatP32CSwapTo
import Derived.Test.YtggmomkohmcciabGreatC60
set_option linter.unusedVariables false
set_option linter.unusedSimpArgs false
namespace Go.Proofs.YtggmomkohmcciabGreat.F
open Go.VX
open Classical
theorem r_SwapTo (p q : PlanD) (s : StateD) (wp : WfP p) (wq : WfP q) (h : InS s) (hl : s.2.2.2.2.2.1.length ≤ 30) (ke : List KeptD) (hk : ke.length ≤ 30) (hr : KRange ke) (hkr : onK q ≠ -1 ∧ PlanOkD q → KeptR s.2.2.2.2.2.1 (keepM q) (keepN q).toNat s.2.2.2.2.2.1.length ke) :
    regimenref60_To (p, q, s, ()) = some (if PlanOkD q ∧ PlanOkD p ∧ StateOkD p s then (if s.2.1 = 0 then (if StateOkD q (turnS q s ke) then (turnS q s ke, 0, ()) else (zSt6, 1, ())) else (zSt6, 10, ())) else (zSt6, 1, ())) := by
  unfold regimenref60_To
  dsimp only
  rw [r_mayD p wp, r_mayD q wq]
  by_cases hp : PlanOkD p
  rotate_left
  · rw [decide_eq_false hp, if_neg (fun k => hp k.2.1)]; rfl
  rw [decide_eq_true hp]
  by_cases hq : PlanOkD q
  rotate_left
  · rw [decide_eq_false hq, if_neg (fun k => hq k.1)]; rfl
  rw [decide_eq_true hq, r_stateD p s hp h]
  by_cases hs : StateOkD p s
  rotate_left
  · rw [decide_eq_false hs, if_neg (fun k => hs k.2.2)]; rfl
  rw [decide_eq_true hs, if_pos ⟨hq, hp, hs⟩]
  by_cases h0 : s.2.1 = 0
  rotate_left
  · rw [if_neg h0, decide_eq_false h0]; rfl
  rw [if_pos h0, decide_eq_true h0]
  simp only [bnd_mk, decide_true, Bool.not_true, Bool.not_false, cnd_t, cnd_f]
  have hb : onK q ≠ -1 → regimenref32_Best (s.2.2.2.2.2.1, keepN q, keepM q, ()) = some ke := fun k => r_Best _ _ (by omega) _ _ (hkr ⟨k, hq⟩)
  have hm := r_stateD q (turnS q s ke) hq (turn_ins h (by omega) hr)
  refine Eq.trans (b := bnd (regimenref37_May (q, turnS q s ke, ())) fun r12 => cnd (!r12) (some (zSt6, 1, ())) (some (turnS q s ke, 0, ()))) ?_ ?_
  rotate_left
  · rw [hm, bnd_mk]
    by_cases hs : StateOkD q (turnS q s ke)
    · rw [decide_eq_true hs, if_pos hs]; rfl
    · rw [decide_eq_false hs, if_neg hs]; rfl
  clear hm hp hs hq hkr h0 h wp wq hl hk hr
  obtain ⟨n1, n2, n3, st, cu, kk, em, ⟨sw1, sw2, _⟩, _⟩ := s
  obtain ⟨a0, a1, a2, a3, a4, sp, fz, tr, ps, pc, ⟨kOn, kM, kX, kN, _⟩, ⟨eOn, eD, _⟩, on1, on2, on3, sf, se, _⟩ := q
  dsimp only [onS, onC, onK, emaOn, swaE, keepN, keepM, turnS] at hb ⊢
  by_cases c3 : on3 = -1
  · rw [decide_eq_true c3]
    generalize decide (on1 = -1) = b1 at *
    generalize decide (on2 = -1) = b2 at *
    generalize decide (se = 0) = b5 at *
    cases b1 <;> cases b2 <;> cases eOn <;> cases b5 <;> rfl
  · rw [decide_eq_false c3]
    have hk' := hb c3
    rw [hk']
    generalize decide (on1 = -1) = b1 at *
    generalize decide (on2 = -1) = b2 at *
    generalize decide (se = 0) = b5 at *
    cases b1 <;> cases b2 <;> cases eOn <;> cases b5 <;> rfl
theorem z_ins : InS zSt6 := ⟨⟨by decide, by decide⟩, by decide, by decide, by decide, fun x hx => by cases hx⟩
theorem pure_SwapTo (x : Ty.D (.tu T34 (.tu T34 (.tu T53 .unit)))) (h : Ty.wf (.tu T34 (.tu T34 (.tu T53 .unit))) x) : regimenlaw60_SwapTo x = some true := by
  obtain ⟨p, q, s, _⟩ := x
  obtain ⟨hp, hq, hs, _⟩ := h
  change PlanD at p
  change PlanD at q
  change StateD at s
  have wp : WfP p := by
    obtain ⟨a0, a1, a2, a3, a4, sp, fz, tr, st, cu, ke, em, o1, o2, o3, sf, se, _⟩ := p
    obtain ⟨_, _, _, _, _, hsp, hfz, htr, _⟩ := hp
    exact ⟨hsp.1, hfz.1, htr.1, fun t ht => (htr.2 t ht).2.2.1.1⟩
  have wq : WfP q := by
    obtain ⟨a0, a1, a2, a3, a4, sp, fz, tr, st, cu, ke, em, o1, o2, o3, sf, se, _⟩ := q
    obtain ⟨_, _, _, _, _, hsp, hfz, htr, _⟩ := hq
    exact ⟨hsp.1, hfz.1, htr.1, fun t ht => (htr.2 t ht).2.2.1.1⟩
  have hin : InS s := by
    obtain ⟨n1, n2, n3, ⟨b1, b2, b3, _⟩, ⟨⟨c1, c2, c3, _⟩, c4, c5, _⟩, kk, em, ⟨n4, su, _⟩, _⟩ := s
    obtain ⟨i1, i2, i3, _, _, ik, ie, ⟨i12, is, _⟩, _⟩ := hs
    exact ⟨i1, ik.1, ie.1, is.1, fun x hx => (ik.2 x hx).2.1⟩
  unfold regimenlaw60_SwapTo swap_Can
  dsimp only
  obtain ⟨q1, e1⟩ := lightD p
  obtain ⟨q2, e2⟩ := lightD q
  rw [aw_regimenlaw60_awake, e1, e2, light37]
  cases q1 with
  | false => rfl
  | true =>
  cases q2 with
  | false => rfl
  | true =>
  by_cases hl : s.2.2.2.2.2.1.length ≤ 30 ∧ s.2.2.2.2.2.2.1.length ≤ 30 ∧ s.2.2.2.2.2.2.2.1.2.1.length ≤ 30
  rotate_left
  · rw [decide_eq_false hl]; rfl
  rw [decide_eq_true hl]
  by_cases k1 : p.1 > 2000
  · rw [decide_eq_true k1]; rfl
  rw [decide_eq_false k1]
  by_cases k2 : q.1 > 2000
  · rw [decide_eq_true k2]; rfl
  rw [decide_eq_false k2]
  obtain ⟨ke, a1, a2, a3, a4⟩ := p_SwapTo p q s wp wq hin hl.1
  rw [a4, r_SwapTo p q s wp wq hin hl.1 ke a1 a2 a3]
  simp only [bnd_mk, Bool.not_true, Bool.not_false, cnd_t, cnd_f, decide_true]
  have hti : InS (turnS q s ke) := turn_ins hin (by omega) a2
  have rest : ∀ (r : StateD × Int × Unit), InS r.1 → (r.2.1 = 0 → regimenref37_May (q, r.1, ()) = some true) → r.2.2 = () →
      (bnd (regimenref37_Same (r.1, r.1, ())) fun r11 => bnd (cnd r11 (some true) (some false)) fun j14 => bnd (cnd j14 (some true) (some false)) fun j17 => bnd (cnd j17 (bnd (cnd (decide (r.2.1 = 0)) (bnd (regimenref37_May (q, r.1, ())) fun r15 => some r15) (some true)) fun j16 => some j16) (some false)) fun j19 => bnd (cnd j19 (some true) (some false)) fun j => some j) = some true := fun r ht hm _ => by
    rw [r_sameD r.1 r.1 ht, decide_eq_true rfl]
    simp only [bnd_mk, cnd_t]
    by_cases h0 : r.2.1 = 0
    · rw [decide_eq_true h0, hm h0]; rfl
    · rw [decide_eq_false h0]; rfl
  have hz1 : InS (if PlanOkD q ∧ PlanOkD p ∧ StateOkD p s then (if s.2.1 = 0 then (if StateOkD q (turnS q s ke) then (turnS q s ke, 0, ()) else (zSt6, 1, ())) else (zSt6, 10, ())) else (zSt6, 1, ()) : StateD × Int × Unit).1 := by
    split
    · split
      · split
        · exact hti
        · exact z_ins
      · exact z_ins
    · exact z_ins
  have hz2 : (if PlanOkD q ∧ PlanOkD p ∧ StateOkD p s then (if s.2.1 = 0 then (if StateOkD q (turnS q s ke) then (turnS q s ke, 0, ()) else (zSt6, 1, ())) else (zSt6, 10, ())) else (zSt6, 1, ()) : StateD × Int × Unit).2.1 = 0 → regimenref37_May (q, (if PlanOkD q ∧ PlanOkD p ∧ StateOkD p s then (if s.2.1 = 0 then (if StateOkD q (turnS q s ke) then (turnS q s ke, 0, ()) else (zSt6, 1, ())) else (zSt6, 10, ())) else (zSt6, 1, ()) : StateD × Int × Unit).1, ()) = some true := by
    split
    · rename_i hc
      split
      · split
        · rename_i hs
          intro _
          exact (r_stateD q _ hc.1 hti).trans (congrArg some (decide_eq_true hs))
        · intro h; cases h
      · intro h; cases h
    · intro h; cases h
  generalize (if PlanOkD q ∧ PlanOkD p ∧ StateOkD p s then (if s.2.1 = 0 then (if StateOkD q (turnS q s ke) then (turnS q s ke, 0, ()) else (zSt6, 1, ())) else (zSt6, 10, ())) else (zSt6, 1, ()) : StateD × Int × Unit) = r at *
  have := rest r hz1 hz2 rfl
  simp only [bnd_mk, Bool.not_true, Bool.not_false, Bool.not_not, cnd_t, cnd_f, decide_true] at this ⊢
  exact this
end Go.Proofs.YtggmomkohmcciabGreat.F
