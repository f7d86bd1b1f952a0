/- The law BoundTells, in plain Lean: how much there can be of any plan, and how many steps there are still. -/
import Derived.Test.YtgghhgbbbhncaaaVx3
import Derived.Test.YtgghhgbbbhncaaaP43BoundTells
set_option linter.unusedVariables false
set_option linter.unusedSimpArgs false
namespace Go.Proofs.Ytgghhgbbbhncaaa.F
open Go.VX
open Classical
theorem light37b (s : StateD) : ∃ q, regimenlaw37_Light (s, ()) = some q := by
  unfold regimenlaw37_Light
  dsimp only
  simp only [bnd_mk, cnd_some_and]
  exact ⟨_, rfl⟩
theorem awake43 : regimenlaw43_awake () = some true := by
  have e1 : plan_Check ((2, 0, 0, 1, 1, [(0, 2, ())], [[false]], [(0, 0, [(0, 2, 0, 2, (1, 8, 0, 0, ()), 0, 0, ())], ()), (0, 1, [(0, 2, 0, 2, (1, 8, 0, 0, ()), 0, 0, ())], ()), (0, 2, [(0, 2, 0, 2, (1, 8, 0, 0, ()), 0, 0, ())], ())], (false, [], false, 0, 0, false, ()), (false, [], false, 0, 0, 0, 0, 0, ()), (false, [], false, 0, ()), (false, 0, ()), (-1), (-1), (-1), 0, 0, ()), ()) = some 0 :=
    exCheck 2 8 0 1 (false, [], false, 0, ()) (-1) (by omega) (by omega) (by omega) (by omega) (by omega) (by omega) (by omega) (by omega) (keep_none _ _)
  unfold regimenlaw43_awake bound_Events bound_Bytes bound_Looks
  dsimp only
  rw [e1, p_watched _ (-1) (-1) (-1) rfl rfl rfl]
  rfl
theorem p_some (b : Bool) (n : Int) : bound_some (b, n, ()) = some (if b = true then n else 0) := by
  unfold bound_some
  cases b <;> rfl
theorem pure_BoundTells (x : Ty.D (.tu T78 (.tu T63 .unit))) (h : Ty.wf (.tu T78 (.tu T63 .unit)) x) : regimenlaw43_BoundTells x = some true := by
  obtain ⟨⟨a0, a1, a2, a3, a4, sp, fz, tr, st, cu, ke, em, o1, o2, o3, sf, se, _⟩, s, _⟩ := x
  obtain ⟨⟨_, _, _, _, _, hsp, hfz, htr, _⟩, hs, _⟩ := h
  change Int at a0
  change Int at a1
  change Int at a2
  change Int at a3
  change Int at a4
  change Int at o1
  change Int at o2
  change Int at o3
  change Int at sf
  change Int at se
  change StateD at s
  change KeepD at ke
  change Bool × Int × Unit at em
  have hl : s.2.2.2.2.2.1.length ≤ 9223372036854775807 := hs.2.2.2.2.2.1.1
  have hk : KRange s.2.2.2.2.2.1 := fun x hx => (hs.2.2.2.2.2.1.2 x hx).2.1
  have hi : In64 s.1 := hs.1
  have hg : ∀ t ∈ tr, t.2.2.1.length ≤ 9223372036854775807 := fun t ht => (htr.2 t ht).2.2.1.1
  unfold regimenlaw43_BoundTells
  dsimp only
  rw [awake43]
  obtain ⟨q1, e1⟩ := light a0 a1 a2 a3 a4 sp fz tr st cu ke em o1 o2 o3 sf se
  obtain ⟨q2, e2⟩ := light37b s
  rw [e1, e2]
  cases q1 with
  | false => rfl
  | true =>
  cases q2 with
  | false => rfl
  | true =>
  simp only [bnd_mk, Bool.not_true, Bool.not_false, cnd_t, cnd_f]
  by_cases k1 : a0 > 3000
  · rw [decide_eq_true k1]; rfl
  rw [decide_eq_false k1, cnd_f]
  obtain ⟨q3, e3, f3⟩ := r_may a0 a1 a2 a3 a4 sp fz tr st cu ke em o1 o2 o3 sf se hsp.1 hfz.1 htr.1 hg
  have e4 := p_plan a0 a1 a2 a3 a4 sp fz tr st cu ke em o1 o2 o3 sf se hsp.1 hfz.1 htr.1 hg
  have e5 := p_state a0 a1 a2 a3 a4 sp fz tr st cu ke em o1 o2 o3 sf se s hsp.1 hfz.1 htr.1 hg hl hk hi
  unfold bound_Events bound_Bytes bound_Looks bound_Steps
  dsimp only
  rw [e3, e4, e5]
  by_cases hp : PlanOk a0 a1 a2 a3 a4 sp fz tr st cu ke em o1 o2 o3 sf se
  rotate_left
  · have hq : q3 = false := by
      cases q3 with
      | false => rfl
      | true => exact (hp (f3.1 rfl)).elim
    rw [if_neg hp, if_neg (fun k => hp k.1), hq]
    rfl
  have hq : q3 = true := f3.2 hp
  subst hq
  obtain ⟨hh, _, _, _, hst, hcu, hke, hav⟩ := id hp
  unfold HeadOk at hh
  have r1 : -1 ≤ o1 ∧ (o1 = -1 ∨ o1 < a2) := by unfold StopOk SeenOk at hst; omega
  have r2 : -1 ≤ o2 ∧ (o2 = -1 ∨ o2 < a2) := by unfold CutOk SeenOk at hcu; omega
  have r3 : -1 ≤ o3 ∧ (o3 = -1 ∨ o3 < a2) := by unfold KeepOk SeenOk at hke; omega
  have hse : 0 ≤ se := by unfold AvgOk at hav; omega
  have hct : 0 ≤ ke.2.2.2.1 ∧ ke.2.2.2.1 ≤ 16 := by
    unfold KeepOk at hke
    rcases hke with ⟨_, hz⟩ | hz
    · have := (eqT_iff tKeep rfl ke (false, [], false, 0, ())).1 hz
      rw [this]
      exact ⟨by decide, by decide⟩
    · omega
  rw [if_pos hp, p_watched _ o1 o2 o3 rfl rfl rfl, r_events _ a3 a2 se o1 o2 o3 rfl rfl rfl rfl rfl rfl (by omega) (by omega) (by omega) (by omega) r1 r2 r3, r_looks _ a4 a0 rfl (by omega) (by omega)]
  simp only [p_some]
  simp only [bnd_mk, decide_true, Bool.not_true, Bool.not_false, cnd_t, cnd_f]
  have hev : (wr .i64 ((wr .i64 ((wr .i64 ((wr .i64 ((wr .i64 ((wr .i64 ((wr .i64 (1 + a3)) + (if decide (se > 0) = true then 1 else 0))) + watchedF o1 o2 o3)) + (if decide (o3 ≥ 0) = true then 2 else 0))) + (if decide (o2 ≥ 0) = true then 1 else 0))) + (if decide (o1 ≥ 0) = true then 1 else 0))) + 1)) = 2 + a3 + (if se ≠ 0 then 1 else 0) + 2 * (if o3 ≠ -1 then 1 else 0) + (if o2 ≠ -1 then 1 else 0) + (if o1 ≠ -1 then 1 else 0) + watchedF o1 o2 o3 := by
    have hw := watched_range o1 o2 o3
    generalize watchedF o1 o2 o3 = W at *
    simp only [decide_eq_true_eq]
    have b1 : (if se > 0 then (1 : Int) else 0) = if se ≠ 0 then 1 else 0 := by
      by_cases h : se = 0
      · rw [if_neg (by omega), if_neg (by omega)]
      · rw [if_pos (by omega), if_pos (by omega)]
    have b2 : (if o3 ≥ 0 then (2 : Int) else 0) = 2 * if o3 ≠ -1 then 1 else 0 := by
      by_cases h : o3 = -1
      · rw [if_neg (by omega), if_neg (by omega)]; rfl
      · rw [if_pos (by omega), if_pos (by omega)]; rfl
    have b3 : (if o2 ≥ 0 then (1 : Int) else 0) = if o2 ≠ -1 then 1 else 0 := by
      by_cases h : o2 = -1
      · rw [if_neg (by omega), if_neg (by omega)]
      · rw [if_pos (by omega), if_pos (by omega)]
    have b4 : (if o1 ≥ 0 then (1 : Int) else 0) = if o1 ≠ -1 then 1 else 0 := by
      by_cases h : o1 = -1
      · rw [if_neg (by omega), if_neg (by omega)]
      · rw [if_pos (by omega), if_pos (by omega)]
    rw [b1, b2, b3, b4]
    have one01 : ∀ P : Prop, ∀ _ : Decidable P, (if P then (1 : Int) else 0) = 0 ∨ (if P then (1 : Int) else 0) = 1 := fun P _ => by split <;> simp
    have w1 := one01 (se ≠ 0) inferInstance
    have w2 := one01 (o3 ≠ -1) inferInstance
    have w3 := one01 (o2 ≠ -1) inferInstance
    have w4 := one01 (o1 ≠ -1) inferInstance
    generalize (if se ≠ 0 then (1 : Int) else 0) = c1 at *
    generalize (if o3 ≠ -1 then (1 : Int) else 0) = c2 at *
    generalize (if o2 ≠ -1 then (1 : Int) else 0) = c3 at *
    generalize (if o1 ≠ -1 then (1 : Int) else 0) = c4 at *
    rw [wr_id (x := 1 + a3) (by omega) (by omega), wr_id (x := 1 + a3 + c1) (by omega) (by omega), wr_id (x := 1 + a3 + c1 + W) (by omega) (by omega), wr_id (x := 1 + a3 + c1 + W + 2 * c2) (by omega) (by omega), wr_id (x := 1 + a3 + c1 + W + 2 * c2 + c3) (by omega) (by omega), wr_id (x := 1 + a3 + c1 + W + 2 * c2 + c3 + c4) (by omega) (by omega), wr_id (x := 1 + a3 + c1 + W + 2 * c2 + c3 + c4 + 1) (by omega) (by omega)]
    omega
  rw [hev]
  generalize 2 + a3 + (if se ≠ 0 then (1 : Int) else 0) + 2 * (if o3 ≠ -1 then 1 else 0) + (if o2 ≠ -1 then 1 else 0) + (if o1 ≠ -1 then 1 else 0) + watchedF o1 o2 o3 = EV
  have hby : regimenref43_Bytes ((a0, a1, a2, a3, a4, sp, fz, tr, st, cu, ke, em, o1, o2, o3, sf, se, ()), ()) = some (wr .i64 (10 * (wr .i64 ((wr .i64 ((wr .i64 (16 + (wr .i64 (2 * ke.2.2.2.1)))) + (if em.1 = true then a1 else 0))) + (if decide (se > 0) = true then a1 else 0))))) := by
    have hr : ∀ b, regimenref43_one (b, ()) = some (if b = true then 1 else 0) := fun b => by
      unfold regimenref43_one
      cases b <;> rfl
    unfold regimenref43_Bytes
    dsimp only
    rw [hr, hr, bnd_mk, bnd_mk]
    congr 1
    have c1 : (if (!decide (se = 0)) = true then (1 : Int) else 0) = if se > 0 then 1 else 0 := by
      by_cases h : se = 0
      · rw [decide_eq_true h, if_neg (by omega : ¬ se > 0)]; rfl
      · rw [decide_eq_false h, if_pos (by omega : se > 0)]; rfl
    rw [c1]
    simp only [decide_eq_true_eq]
    generalize ke.2.2.2.1 = c at *
    rw [wr_id (x := 2 * c) (by omega) (by omega), wr_id (x := 20 * c) (by omega) (by omega), wr_id (x := 16 + 2 * c) (by omega) (by omega), wr_id (x := 160 + 20 * c) (by omega) (by omega), wr_id (x := 10 * a1) (by omega) (by omega)]
    by_cases d1 : em.1 = true <;> by_cases d2 : se > 0
    · rw [if_pos d1, if_pos d1, if_pos d2, if_pos d2, show wr .i64 ((1 : Int) + 1) = 2 from rfl, wr_id (x := 16 + 2 * c + a1) (by omega) (by omega), wr_id (x := 16 + 2 * c + a1 + a1) (by omega) (by omega), wr_id (x := 10 * a1 * 2) (by omega) (by omega), wr_id (x := 160 + 20 * c + 10 * a1 * 2) (by omega) (by omega), wr_id (x := 10 * (16 + 2 * c + a1 + a1)) (by omega) (by omega)]
      omega
    · rw [if_pos d1, if_pos d1, if_neg d2, if_neg d2, show wr .i64 ((1 : Int) + 0) = 1 from rfl, wr_id (x := 16 + 2 * c + a1) (by omega) (by omega), wr_id (x := 16 + 2 * c + a1 + 0) (by omega) (by omega), wr_id (x := 10 * a1 * 1) (by omega) (by omega), wr_id (x := 160 + 20 * c + 10 * a1 * 1) (by omega) (by omega), wr_id (x := 10 * (16 + 2 * c + a1 + 0)) (by omega) (by omega)]
      omega
    · rw [if_neg d1, if_neg d1, if_pos d2, if_pos d2, show wr .i64 ((0 : Int) + 1) = 1 from rfl, wr_id (x := 16 + 2 * c + 0) (by omega) (by omega), wr_id (x := 16 + 2 * c + 0 + a1) (by omega) (by omega), wr_id (x := 10 * a1 * 1) (by omega) (by omega), wr_id (x := 160 + 20 * c + 10 * a1 * 1) (by omega) (by omega), wr_id (x := 10 * (16 + 2 * c + 0 + a1)) (by omega) (by omega)]
      omega
    · rw [if_neg d1, if_neg d1, if_neg d2, if_neg d2, show wr .i64 ((0 : Int) + 0) = 0 from rfl, wr_id (x := 16 + 2 * c + 0) (by omega) (by omega), wr_id (x := 16 + 2 * c + 0 + 0) (by omega) (by omega), wr_id (x := 10 * a1 * 0) (by omega) (by omega), wr_id (x := 160 + 20 * c + 10 * a1 * 0) (by omega) (by omega), wr_id (x := 10 * (16 + 2 * c + 0 + 0)) (by omega) (by omega)]
      omega
  rw [hby]
  generalize (wr .i64 (10 * (wr .i64 ((wr .i64 ((wr .i64 (16 + (wr .i64 (2 * ke.2.2.2.1)))) + (if em.1 = true then a1 else 0))) + (if decide (se > 0) = true then a1 else 0))))) = BY
  have hlo : ∀ {β : Type} (K : Int × Int × Unit → Option β), (bnd (cnd (decide (a4 = 0)) (some (0, 0, ())) (bnd (quoI .i64 a0 a4) fun v3 => some (v3, 0, ()))) K) = K (looksF a4 a0.toNat, 0, ()) := by
    intro β K
    unfold looksF
    by_cases h4 : a4 = 0
    · rw [decide_eq_true h4, if_pos (by omega)]; rfl
    · have d1 : 0 ≤ a0 / a4 := Int.ediv_nonneg (by omega) (by omega)
      have d2 : a0 / a4 ≤ a0 := Int.ediv_le_self _ (by omega)
      rw [decide_eq_false h4, if_neg (by omega), cnd_f]
      unfold quoI
      rw [if_neg h4, Int.tdiv_eq_ediv_of_nonneg (by omega), show IntKind.wrap .i64 (a0 / a4) = a0 / a4 from wr_id (by omega) (by omega), bnd_mk, bnd_mk, Int.toNat_of_nonneg (by omega)]
  rw [hlo]
  obtain ⟨q6, e6, f6⟩ := r_state a0 a1 a2 a3 a4 sp fz tr st cu ke em o1 o2 o3 sf se s hp hl hi
  rw [e6]
  simp only [bnd_mk, decide_true, Bool.not_true, Bool.not_false, cnd_t, cnd_f]
  by_cases hst2 : StateOk a0 a1 a4 st cu ke em o1 o2 o3 sf se s
  · have hq6 : q6 = true := f6.2 hst2
    subst hq6
    rw [if_pos ⟨hp, hst2⟩]
    simp only [bnd_mk, decide_true, Bool.not_true, Bool.not_false, cnd_t, cnd_f]
    by_cases hg0 : s.2.1 = 0
    · rw [decide_eq_true hg0]
      simp only [bnd_mk, decide_true, Bool.not_true, Bool.not_false, cnd_t, cnd_f, if_true]
    · rw [decide_eq_false hg0]
      simp only [bnd_mk, decide_true, Bool.not_true, Bool.not_false, cnd_t, cnd_f, Bool.false_eq_true, if_false]
  · have hq6 : q6 = false := by
      cases q6 with
      | false => rfl
      | true => exact (hst2 (f6.1 rfl)).elim
    subst hq6
    rw [if_neg (fun k => hst2 k.2)]
    rfl
end Go.Proofs.Ytgghhgbbbhncaaa.F
