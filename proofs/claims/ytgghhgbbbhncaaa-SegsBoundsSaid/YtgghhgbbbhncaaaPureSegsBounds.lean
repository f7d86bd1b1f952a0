/- The law SegsBounds, in plain Lean: any pieces' bounds are numbers of their curves, and each value is within. -/
import Derived.Test.YtgghhgbbbhncaaaPAW24SegsBounds
set_option linter.unusedVariables false
set_option linter.unusedSimpArgs false
namespace Go.Proofs.Ytgghhgbbbhncaaa.F
open Go.VX
open Classical
theorem r_bounds (c : CurveD) : regimenref09_Bounds (c, ()) = some (BoundsS c) := by
  unfold regimenref09_Bounds BoundsS
  dsimp only
  by_cases h1 : c.1 = 1
  · rw [decide_eq_true h1, if_pos (.inl h1)]; rfl
  · rw [decide_eq_false h1]
    by_cases h2 : c.2.1 = c.2.2.1
    · rw [decide_eq_true h2, if_pos (.inr h2)]; rfl
    · rw [decide_eq_false h2, if_neg (by omega)]
      by_cases h3 : c.2.1 < c.2.2.1
      · rw [decide_eq_true h3, if_pos h3]; rfl
      · rw [decide_eq_false h3, if_neg h3]; rfl
abbrev bAt (l : List SegD) (i : Nat) : Int × Int × Unit := BoundsS (nth zSeg l i).2.2.2.2.1
theorem p_sbounds (l : List SegD) (hs : SegsOk l) (h0 : 0 < l.length) (hl : l.length ≤ 60) : ∃ lo hi : Int, segs_Bounds (l, ()) = some (lo, hi, ()) ∧ (∀ i, i < l.length → lo ≤ (bAt l i).1 ∧ (bAt l i).2.1 ≤ hi) ∧ (∃ i, i < l.length ∧ (bAt l i).1 = lo) ∧ ∃ i, i < l.length ∧ (bAt l i).2.1 = hi := by
  have hb : ∀ i, i < l.length → curve_Bounds ((nth zSeg l i).2.2.2.2.1, ()) = some (bAt l i) := fun i hi => by
    have := (hs i hi).1
    unfold SegOk at this
    rw [p_bounds, if_pos this.2.2.2.2.2.1]
  unfold segs_Bounds
  dsimp only
  rw [p_segs l (by omega), if_pos ⟨hs, h0⟩, bnd_mk, decide_eq_true rfl, Bool.not_true, cnd_f, ati_0 zSeg h0, bnd_mk, hb 0 h0, bnd_mk]
  obtain ⟨r, e, h⟩ := loop_rule (ρ := Int × Int × Unit) (f := (fun (s5 : Int × Int × Int × Unit) => cnd (decide (s5.2.2.1 < (l.length : Int))) (bnd (ati l s5.2.2.1) fun v6 => bnd (curve_Bounds (v6.2.2.2.2.1, ())) fun r7 => inlE (minL s5.1 [r7.1], maxL s5.2.1 [r7.2.1], wr .i64 (s5.2.2.1 + 1), ())) (inrE (some (s5.1, s5.2.1, ())))))
    (fun s => 0 ≤ s.2.2.1 ∧ s.2.2.1 ≤ l.length ∧ (∀ j : Nat, j < s.2.2.1.toNat → s.1 ≤ (bAt l j).1 ∧ (bAt l j).2.1 ≤ s.2.1) ∧ (∃ j, j < l.length ∧ (bAt l j).1 = s.1) ∧ ∃ j, j < l.length ∧ (bAt l j).2.1 = s.2.1) (fun s => l.length - s.2.2.1.toNat)
    (fun r => (∀ j : Nat, j < l.length → r.1 ≤ (bAt l j).1 ∧ (bAt l j).2.1 ≤ r.2.1) ∧ (∃ j, j < l.length ∧ (bAt l j).1 = r.1) ∧ ∃ j, j < l.length ∧ (bAt l j).2.1 = r.2.1) (fun s ⟨i0, i1, i2, i3, i4⟩ => by
      obtain ⟨lo, hi, i, _⟩ := s
      dsimp only at *
      obtain ⟨k, rfl⟩ : ∃ k : Nat, i = k := ⟨i.toNat, by omega⟩
      by_cases hk : k < l.length
      · left
        rw [lt_true hk, cnd_t, ati_d zSeg hk, bnd_mk, hb k hk, bnd_mk, wr_succ hk (by omega)]
        refine ⟨_, rfl, ⟨by dsimp only; omega, by dsimp only; omega, fun j hj => ?_, ?_, ?_⟩, by dsimp only; omega⟩
        · dsimp only [minL, maxL] at hj ⊢
          by_cases hjk : j = k
          · subst hjk
            constructor
            · split <;> omega
            · split <;> omega
          · have := i2 j (by omega)
            constructor
            · split <;> omega
            · split <;> omega
        · dsimp only [minL]
          split
          · exact ⟨k, hk, rfl⟩
          · exact i3
        · dsimp only [maxL]
          split
          · exact ⟨k, hk, rfl⟩
          · exact i4
      · right
        have hkn : k = l.length := by omega
        subst hkn
        rw [lt_false, cnd_f]
        exact ⟨_, rfl, fun j hj => i2 j (by rw [Int.toNat_natCast]; exact hj), i3, i4⟩) ((bAt l 0).1, (bAt l 0).2.1, 0, ()) ⟨by dsimp only; omega, by dsimp only; omega, fun j hj => by simp at hj, ⟨0, h0, rfl⟩, ⟨0, h0, rfl⟩⟩
  rw [e, bnd_mk]
  exact ⟨r.1, r.2.1, rfl, h⟩
theorem pure_SegsBounds (x : Ty.D (.tu T45 (.tu (.int .i64) .unit))) (h : Ty.wf (.tu T45 (.tu (.int .i64) .unit)) x) : regimenlaw24_SegsBounds x = some true := by
  obtain ⟨l, step, _⟩ := x
  change List SegD at l
  change Int at step
  unfold regimenlaw24_SegsBounds
  dsimp only
  rw [awake24]
  by_cases hl : (l.length : Int) > 60
  · rw [decide_eq_true hl]; rfl
  rw [decide_eq_false hl, cnd_f, r_segs l (by omega)]
  by_cases hm : SegsOk l ∧ 0 < l.length
  · rw [decide_eq_true hm]
    obtain ⟨lo, hi, e, h1, ⟨a, ha, ha2⟩, b, hb, hb2⟩ := p_sbounds l hm.1 hm.2 (by omega)
    rw [e, bnd_mk, bnd_mk, Bool.not_true, cnd_f]
    dsimp only
    obtain ⟨r, e2, h2⟩ := loop_rule (ρ := (Bool × Bool × Unit) ⊕ Bool) (f := (fun (s8 : Bool × Bool × Int × Unit) => cnd (decide (s8.2.2.1 < (l.length : Int))) (bnd (ati l s8.2.2.1) fun v9 => bnd (regimenref09_Bounds (v9.2.2.2.2.1, ())) fun r10 => bnd (cnd (!(decide (r10.1 < lo))) (some (decide (r10.2.1 > hi))) (some true)) fun j11 => cnd j11 (inrE (inrE (some false))) (bnd (cnd (!s8.1) (some (decide (r10.1 = lo))) (some true)) fun j12 => bnd (cnd (!s8.2.1) (some (decide (r10.2.1 = hi))) (some true)) fun j13 => inlE (j12, j13, wr .i64 (s8.2.2.1 + 1), ()))) (inrE (inlE (s8.1, s8.2.1, ())))))
      (fun s => 0 ≤ s.2.2.1 ∧ s.2.2.1 ≤ l.length ∧ (a < s.2.2.1.toNat → s.1 = true) ∧ (b < s.2.2.1.toNat → s.2.1 = true)) (fun s => l.length - s.2.2.1.toNat) (fun r => r = .inl (true, true, ())) (fun s ⟨i0, i1, i2, i3⟩ => by
        obtain ⟨p, q, i, _⟩ := s
        dsimp only at *
        obtain ⟨k, rfl⟩ : ∃ k : Nat, i = k := ⟨i.toNat, by omega⟩
        by_cases hk : k < l.length
        · left
          have hb1 := h1 k hk
          unfold bAt at hb1
          rw [lt_true hk, cnd_t, ati_d zSeg hk, bnd_mk, r_bounds, bnd_mk, wr_succ hk (by omega), decide_eq_false (by omega : ¬ (BoundsS (nth zSeg l k).2.2.2.2.1).1 < lo), decide_eq_false (by omega : ¬ (BoundsS (nth zSeg l k).2.2.2.2.1).2.1 > hi)]
          refine ⟨(p || decide ((BoundsS (nth zSeg l k).2.2.2.2.1).1 = lo), q || decide ((BoundsS (nth zSeg l k).2.2.2.2.1).2.1 = hi), (k : Int) + 1, ()), ?_, ⟨by dsimp only; omega, by dsimp only; omega, fun hj => ?_, fun hj => ?_⟩, by dsimp only; omega⟩
          · cases p <;> cases q <;> rfl
          · dsimp only at hj ⊢
            by_cases hak : a = k
            · subst hak
              rw [decide_eq_true ha2, Bool.or_true]
            · rw [i2 (by omega)]; rfl
          · dsimp only at hj ⊢
            by_cases hbk : b = k
            · subst hbk
              rw [decide_eq_true hb2, Bool.or_true]
            · rw [i3 (by omega)]; rfl
        · right
          have hkn : k = l.length := by omega
          subst hkn
          rw [lt_false, cnd_f, i2 (by omega), i3 (by omega)]
          exact ⟨_, rfl, rfl⟩) (false, false, 0, ()) ⟨by dsimp only; omega, by dsimp only; omega, fun h => by simp at h, fun h => by simp at h⟩
    rw [e2, h2, bndS_l]
    rcases p_segat l step hm.1 hm.2 (by omega) with ⟨i, v, k1, k2, k3, k4, k5, k6, k7⟩ | ⟨k1, k2, k3, k4⟩
    · have hb1 := h1 i k1.1
      unfold bAt at hb1
      rw [k2]
      simp only [bnd_mk, decide_true, Bool.not_true, Bool.not_false, cnd_t, cnd_f]
      rw [decide_eq_true (by omega : v ≥ lo), decide_eq_true (by omega : v ≤ hi)]
      rfl
    · rw [k2]
      rfl
  · rw [decide_eq_false hm]
    have h1 : segs_Bounds (l, ()) = some (0, 0, ()) := by
      unfold segs_Bounds
      dsimp only
      rw [p_segs l (by omega), if_neg hm]
      rfl
    rw [h1]
    rfl
end Go.Proofs.Ytgghhgbbbhncaaa.F
