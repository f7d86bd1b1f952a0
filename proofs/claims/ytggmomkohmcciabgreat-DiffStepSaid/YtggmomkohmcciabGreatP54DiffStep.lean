/- Budgets: values of a track, added up. -/
import Derived.Test.YtggmomkohmcciabGreatPZDiffStep
import Derived.Test.YtggmomkohmcciabGreatPYDiffStep
set_option linter.unusedVariables false
set_option linter.unusedSimpArgs false
namespace Go.Proofs.YtggmomkohmcciabGreat.F
open Go.VX
open Classical

noncomputable def valF (l : List SegD) (step : Int) : Int := match segs_At (l, step, ()) with
  | some r => r.1
  | none => 0
theorem bounds_q (c : CurveD) (h : CurveOk c) : 0 ≤ (BoundsS c).1 ∧ (BoundsS c).2.1 ≤ 4503599627370496 := by
  unfold BoundsS
  unfold CurveOk at h
  split
  · dsimp only; omega
  · split
    · dsimp only; omega
    · dsimp only; omega
theorem segs_val (l : List SegD) (step : Int) (hs : SegsOk l) (hl0 : 0 < l.length) (hl : l.length ≤ 4611686018427387903) : ∃ e, segs_At (l, step, ()) = some (valF l step, e, ()) ∧ 0 ≤ valF l step ∧ valF l step ≤ 4503599627370496 := by
  unfold valF
  rcases p_segat l step hs hl0 hl with ⟨i, v, h1, h2, _, _, _, h3, h4⟩ | ⟨_, h2, _⟩
  · have hb := bounds_q (nth zSeg l i).2.2.2.2.1 (hs i h1.1).1.2.2.2.2.2.1
    rw [h2]
    refine ⟨0, rfl, ?_, ?_⟩
    · dsimp only; omega
    · dsimp only; omega
  · rw [h2]
    exact ⟨8, rfl, by decide, by decide⟩
theorem seg_place (l : List SegD) (hs : SegsOk l) : ∀ i : Nat, i < l.length → (i : Int) < (nth zSeg l i).2.1
  | 0, h => by
    have k := (hs 0 h).1
    unfold SegOk at k
    omega
  | i + 1, h => by
    have k := seg_place l hs i (by omega)
    have k2 := hs (i + 1) h
    have k3 := k2.2 (by omega)
    rw [Nat.add_sub_cancel] at k3
    have k4 := k2.1
    unfold SegOk at k4
    omega
theorem seg_len (l : List SegD) (hs : SegsOk l) (n : Int) (hn : (nth zSeg l (l.length - 1)).2.1 = n) (h : n ≤ 1000000) : l.length ≤ 4611686018427387903 := by
  by_cases h0 : l.length = 0
  · omega
  · have := seg_place l hs (l.length - 1) (by omega)
    omega
noncomputable def sumV (l : List SegD) (a : Int) : Nat → Int
  | 0 => 0
  | n + 1 => sumV l a n + valF l (a + n)
theorem sumV_add (l : List SegD) (a : Int) (m : Nat) : ∀ n : Nat, sumV l a (m + n) = sumV l a m + sumV l (a + m) n
  | 0 => by simp [sumV]
  | n + 1 => by
    rw [← Nat.add_assoc]
    simp only [sumV, sumV_add l a m n]
    rw [show a + ((m + n : Nat) : Int) = a + m + n by omega]
    omega
theorem sumV_range (l : List SegD) (hs : SegsOk l) (hl0 : 0 < l.length) (hl : l.length ≤ 4611686018427387903) (a : Int) : ∀ n : Nat, 0 ≤ sumV l a n ∧ sumV l a n ≤ n * 4503599627370496
  | 0 => by simp [sumV]
  | n + 1 => by
    have h := sumV_range l hs hl0 hl a n
    obtain ⟨_, _, h1, h2⟩ := segs_val l (a + n) hs hl0 hl
    simp only [sumV]
    omega
theorem sumV_up (l : List SegD) (hs : SegsOk l) (hl0 : 0 < l.length) (hl : l.length ≤ 4611686018427387903) (a : Int) (m : Nat) : ∀ n : Nat, sumV l a m ≤ sumV l a (m + n) := by
  intro n
  rw [sumV_add]
  have := sumV_range l hs hl0 hl (a + m) n
  omega
theorem wu_id {x : Int} (h0 : 0 ≤ x) (h1 : x ≤ 18446744073709551615) : wr .u64 x = x := by
  show x % 18446744073709551616 = x
  exact Int.emod_eq_of_lt h0 (by omega)
section
variable (a0 a1 a2 a3 a4 : Int) (sp : List SpanD) (fz : List (List Bool)) (tr : List TrackD) (st : StopD) (cu : CutD) (ke : KeepD) (em : Bool × Int × Unit) (o1 o2 o3 sf se : Int)
def Over (S mh ml : Int) : Prop := mh = 0 ∧ ml < S
end
theorem ex_val (step : Int) (h0 : 0 ≤ step) (h1 : step < 4) : valF [(0, 4, 0, 4, (1, 4294967296, 0, 0, ()), 0, 0, ())] step = 4294967296 := by
  have hl := exSegs_ok 4 4294967296 (by omega) (by omega) (by omega) (by omega)
  rcases p_segat _ step hl (by simp) (by simp) with ⟨i, v, a1, a2, _, _, a3, _⟩ | ⟨a1, _⟩
  · have hi : i = 0 := by have := a1.1; simp at this; exact this
    subst hi
    have hv : regimenref24_Value ((0, 4, 0, 4, (1, 4294967296, 0, 0, ()), 0, 0, ()), step, ()) = some 4294967296 := by
      unfold regimenref24_Value
      dsimp only
      rw [wr_id (x := step - 0) (by omega) (by omega), r_atS _ _ _ (by unfold CurveOk; dsimp only; omega) (by omega) (by omega) (by omega) (by omega)]
      rfl
    have hh : some v = some 4294967296 := a3.symm.trans hv
    unfold valF
    rw [show segs_At ([(0, 4, 0, 4, (1, 4294967296, 0, 0, ()), 0, 0, ())], step, ()) = _ from a2]
    exact Option.some.inj hh
  · exact (a1 0 ⟨by simp, h0, h1⟩).elim
end Go.Proofs.YtggmomkohmcciabGreat.F
