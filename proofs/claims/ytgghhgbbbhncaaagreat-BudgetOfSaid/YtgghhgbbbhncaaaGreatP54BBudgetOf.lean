/- Budgets: the reference's sum by digits, and the mean. -/
import Derived.Test.YtgghhgbbbhncaaaGreatP54BudgetOf
set_option linter.unusedVariables false
set_option linter.unusedSimpArgs false
namespace Go.Proofs.YtgghhgbbbhncaaaGreat.F
open Go.VX
open Classical

theorem has_cover (l : List SegD) (hs : SegsOk l) (h0 : (nth zSeg l 0).1 = 0) (step : Int) (s0 : 0 ≤ step) : ∀ j, j < l.length → step < (nth zSeg l j).2.1 → ∃ i, HasStep l step i
  | 0, hj, h => ⟨0, hj, by omega, h⟩
  | j + 1, hj, h => by
    by_cases k : step < (nth zSeg l j).2.1
    · exact has_cover l hs h0 step s0 j (by omega) k
    · have := (hs (j + 1) hj).2 (by omega)
      rw [Nat.add_sub_cancel] at this
      exact ⟨j + 1, hj, by omega, h⟩
theorem r_valueat (l : List SegD) (hs : SegsOk l) (hl0 : 0 < l.length) (hl : l.length ≤ 4611686018427387903) (n : Int) (h0 : (nth zSeg l 0).1 = 0) (hn : (nth zSeg l (l.length - 1)).2.1 = n) (step : Int) (s0 : 0 ≤ step) (s1 : step < n) :
    ∃ i : Nat, i < l.length ∧ regimenref24_Find (l, step, ()) = some (i : Int) ∧ regimenref24_Value (nth zSeg l i, step, ()) = some (valF l step) ∧ segs_At (l, step, ()) = some (valF l step, 0, ()) := by
  rcases p_segat l step hs hl0 hl with ⟨i, v, h1, h2, _, h4, h5, _⟩ | ⟨h1, _⟩
  · have hv : valF l step = v := by unfold valF; rw [h2]
    exact ⟨i, h1.1, h4, by rw [hv]; exact h5, by rw [hv]; exact h2⟩
  · obtain ⟨i, hi⟩ := has_cover l hs h0 step s0 (l.length - 1) (by omega) (by omega)
    exact (h1 i hi).elim
section
variable (a0 a1 a2 a3 a4 : Int) (sp : List SpanD) (fz : List (List Bool)) (tr : List TrackD) (st : StopD) (cu : CutD) (ke : KeepD) (em : Bool × Int × Unit) (o1 o2 o3 sf se : Int)
theorem r_sum54 (t : Nat) (hn : t < tr.length) (hT : TrackOk a0 t (nth zTrack tr t)) (h0 : a0 ≤ 300)
    (x y : Int) (hx : 0 ≤ x) (hxy : x ≤ y) (hy : y ≤ a0) :
    ∃ S, regimenref54_Sum ((a0, a1, a2, a3, a4, sp, fz, tr, st, cu, ke, em, o1, o2, o3, sf, se, ()), (t : Int), x, y, ()) = some S ∧ Dig S ∧ V S = sumV (nth zTrack tr t).2.2.1 x (y - x).toNat ∧ S.length ≤ 600 := by
  have hso := hT.2.2.1
  have hl0 := hT.2.2.2.1
  have hl : (nth zTrack tr t).2.2.1.length ≤ 4611686018427387903 := seg_len _ hso a0 hT.2.2.2.2.2 (by omega)
  unfold regimenref54_Sum
  dsimp only
  rw [ati_d zTrack hn, bnd_mk]
  obtain ⟨r, e, h⟩ := loop_rule (ρ := List Int × Unit) (f := (fun (s2 : List (Int) × Int × Unit) => cnd (decide (s2.2.1 < y)) (bnd (regimenref24_Find ((nth zTrack tr t).2.2.1, s2.2.1, ())) fun r3 => bnd (ati (nth zTrack tr t).2.2.1 r3) fun v4 => bnd (regimenref24_Value (v4, s2.2.1, ())) fun r5 => bnd (regimenref02_Size (r5, ())) fun r6 => bnd (regimenref02_Plus (s2.1, r6, ())) fun r7 => inlE (r7, wr .i64 (s2.2.1 + 1), ())) (inrE (some (s2.1, ())))))
    (fun s => ∃ k : Nat, s.2.1 = x + k ∧ x + k ≤ y ∧ Dig s.1 ∧ V s.1 = sumV (nth zTrack tr t).2.2.1 x k ∧ s.1.length ≤ 4 + k) (fun s => (y - s.2.1).toNat) (fun r => Dig r.1 ∧ V r.1 = sumV (nth zTrack tr t).2.2.1 x (y - x).toNat ∧ r.1.length ≤ 600) (fun s ⟨k, i0, i1, i2, i3, i4⟩ => by
      obtain ⟨S, i, _⟩ := s
      dsimp only at i0 i2 i3 i4 ⊢
      subst i0
      by_cases hlt : x + (k : Int) < y
      · left
        obtain ⟨j, hj, e1, e2, e3⟩ := r_valueat (nth zTrack tr t).2.2.1 hso hl0 hl a0 hT.2.2.2.2.1 hT.2.2.2.2.2 (x + k) (by omega) (by omega)
        obtain ⟨_, _, h2, h3⟩ := segs_val (nth zTrack tr t).2.2.1 (x + k) hso hl0 hl
        obtain ⟨z, z1, z2, z3, z4⟩ := size (valF (nth zTrack tr t).2.2.1 (x + k)) (by omega) (by omega)
        obtain ⟨w, w1, w2, w3, w4⟩ := plus S z i2 z2 (by omega) (by omega)
        rw [decide_eq_true hlt, cnd_t, e1, bnd_mk, ati_d zSeg hj, bnd_mk, e2, bnd_mk, z1, bnd_mk, w1, bnd_mk, wr_id (x := x + (k : Int) + 1) (by omega) (by omega)]
        refine ⟨_, rfl, ⟨k + 1, by dsimp only; omega, by omega, w2, ?_, ?_⟩, by dsimp only; omega⟩
        · dsimp only
          rw [w3, z3, i3]
          unfold Abs
          rw [if_neg (by omega)]
          rfl
        · dsimp only
          omega
      · right
        rw [decide_eq_false hlt, cnd_f]
        refine ⟨_, rfl, i2, ?_, ?_⟩
        · dsimp only
          rw [show (y - x).toNat = k by omega]
          exact i3
        · dsimp only
          omega) ([0], x, ()) ⟨0, by dsimp only; omega, by omega, dig_cons.2 ⟨by omega, dig_nil⟩, by simp [V, sumV], by simp⟩
  rw [e, bnd_mk]
  exact ⟨_, rfl, h⟩
end
theorem t_high (S : List Int) (hd : Dig S) (h : V S < 18446744073709551616) : T S 4 4 = 0 := by
  have h1 := v_split S 4 []
  have h2 := t_nonneg hd 0 4
  simp only [V, List.take_nil, List.drop_nil] at h1
  have h3 := v_nonneg (dig_drop hd 4)
  have h5 := v_nonneg (dig_take hd 4)
  rw [show (65536 : Int) ^ 4 = 18446744073709551616 from rfl] at h1
  have h4 : V (S.drop 4) = 0 := by omega
  have h6 := v_split (S.drop 4) 4 []
  simp only [V, List.take_nil, List.drop_nil] at h6
  have h7 := v_nonneg (dig_drop (dig_drop hd 4) 4)
  have h8 := t_nonneg hd 4 4
  unfold T at h8 ⊢
  rw [show (65536 : Int) ^ 4 = 18446744073709551616 from rfl] at h6
  omega
theorem mean54 (S d : Int) (s0 : 0 ≤ S) (d0 : 1 ≤ d) (d1 : d ≤ 300) (s1 : S ≤ d * 4503599627370496) : half_Near ((0, S, ()), wr .u64 (wr .i64 d), ()) = some (Rd S d, 0, ()) ∧ 0 ≤ Rd S d ∧ Rd S d ≤ 4503599627370496 := by
  have h1 := rd_nonneg (n := S) (d := d) (by omega) s0
  have h2 := rd_bound (n := S) (d := d) (x := 4503599627370496) (by omega) (by omega)
  refine ⟨?_, h1, h2⟩
  rw [wr_id (x := d) (by omega) (by omega), wu_id (by omega) (by omega), p_near 0 S d (by omega) (by omega) s0 (by omega) (by omega) (by omega)]
  unfold NearS
  rw [if_neg (by omega), if_neg (by omega), show (0 : Int) * 18446744073709551616 + S = S by omega, if_neg (by omega)]
end Go.Proofs.YtgghhgbbbhncaaaGreat.F
