/- A piece's value as a plain number, and the value of pieces at a step: the program's. -/
import Derived.Test.YtggmomkohmcciabGreatPYDiffStep
set_option linter.unusedVariables false
set_option linter.unusedSimpArgs false
namespace Go.Proofs.YtggmomkohmcciabGreat.F
open Go.VX
open Classical

noncomputable def cyN (F t at' : Int) : Nat := if h : ∃ n, IsCy F t at' n then Classical.choose h else 0
theorem cyN_is {F t at' : Int} {n : Nat} (h : IsCy F t at' n) : cyN F t at' = n := by
  unfold cyN
  rw [dif_pos ⟨n, h⟩]
  exact isCy_one (Classical.choose_spec (⟨n, h⟩ : ∃ n, IsCy F t at' n)) h
noncomputable def RestS (c : CurveD) (F t at' : Int) : Int := CurveS c (at' - (cy F t (cyN F t at')).1) ((cy F t (cyN F t at')).2 - (cy F t (cyN F t at')).1)
noncomputable def SegV (s : SegD) (step : Int) : Int := if s.2.2.2.2.2.1 = 0 then CurveS s.2.2.2.2.1 (step - s.2.2.1) s.2.2.2.1 else RestS s.2.2.2.2.1 s.2.2.2.2.2.1 s.2.2.2.2.2.2.1 (step - s.2.2.1)
theorem rest_in (c : CurveD) (hc : CurveOk c) (F t at' : Int) (h1 : 1 ≤ F) (h2 : F ≤ 1048576) (h3 : 1 ≤ t) (n : Nat) (hn : IsCy F t at' n) (h0 : 0 ≤ at') : (BoundsS c).1 ≤ RestS c F t at' ∧ RestS c F t at' ≤ (BoundsS c).2.1 := by
  unfold RestS
  rw [cyN_is hn]
  have hs := cy_spec F t h1 h2 h3 n
  have hi := cy_in hn h0
  have hj := hn.1
  exact curveS_in _ _ _ hc (by omega) (by omega) (by omega)
theorem value_p (s : SegD) (step : Int) (hs : SegOk s) (h0 : s.1 ≤ step) (h1 : step < s.2.1) : segs_value (s, step, ()) = some (SegV s step, 0, ()) ∧ (BoundsS s.2.2.2.2.1).1 ≤ SegV s step ∧ SegV s step ≤ (BoundsS s.2.2.2.2.1).2.1 := by
  have hs' := hs
  unfold SegOk at hs'
  unfold segs_value SegV
  dsimp only
  obtain ⟨g1, g2, g3, g4, g5, g6, g7⟩ := hs'
  rw [wr_id (x := step - s.2.2.1) (by omega) (by omega)]
  by_cases hf : s.2.2.2.2.2.1 = 0
  · have hn : s.2.1 - s.2.2.1 ≤ s.2.2.2.1 ∧ s.2.2.2.1 ≤ 1048576 := by omega
    rw [decide_eq_true hf, cnd_t, if_pos hf, p_atS _ _ _ g6 (by omega) (by omega) (by omega) (by omega)]
    exact ⟨rfl, curveS_in _ _ _ g6 (by omega) (by omega) (by omega)⟩
  · rw [decide_eq_false hf, cnd_f, if_neg hf]
    obtain ⟨n, e1, k1⟩ := p_cycle s.2.2.2.2.2.1 s.2.2.2.2.2.2.1 (step - s.2.2.1) (by omega) (by omega) (by omega) (by omega) (by omega) (by omega)
    refine ⟨?_, rest_in _ g6 _ _ _ (by omega) (by omega) (by omega) n k1 (by omega)⟩
    unfold RestS
    rw [cyN_is k1, e1, bnd_mk]
    dsimp only
    have hc := cy_spec s.2.2.2.2.2.1 s.2.2.2.2.2.2.1 (by omega) (by omega) (by omega) n
    have hi := cy_in k1 (by omega)
    have hj := k1.1
    rw [wr_id (x := step - s.2.2.1 - _) (by omega) (by omega), wr_id (by omega) (by omega), p_atS _ _ _ g6 (by omega) (by omega) (by omega) (by omega)]
    rfl
theorem segat_p (l : List SegD) (step : Int) (hs : SegsOk l) (hl0 : 0 < l.length) (hl : l.length ≤ 4611686018427387903) :
    (∃ i : Nat, HasStep l step i ∧ segs_At (l, step, ()) = some (SegV (nth zSeg l i) step, 0, ()) ∧ (BoundsS (nth zSeg l i).2.2.2.2.1).1 ≤ SegV (nth zSeg l i) step ∧ SegV (nth zSeg l i) step ≤ (BoundsS (nth zSeg l i).2.2.2.2.1).2.1) ∨
    ((∀ i, ¬ HasStep l step i) ∧ segs_At (l, step, ()) = some (0, 8, ())) := by
  obtain ⟨r, e1, h⟩ := p_find l step hs hl
  unfold segs_At
  dsimp only
  rw [p_segs l (by omega), if_pos ⟨hs, hl0⟩, bnd_mk, decide_eq_true rfl, Bool.not_true, cnd_f, e1, bnd_mk]
  rcases h with ⟨i, rfl, h⟩ | ⟨rfl, h⟩
  · left
    obtain ⟨f1, f3⟩ := value_p (nth zSeg l i) step (hs i h.1).1 h.2.1 h.2.2
    refine ⟨i, h, ?_, f3⟩
    rw [decide_eq_false (by omega : ¬ (i : Int) < 0), cnd_f, ati_d zSeg h.1, bnd_mk, f1, bnd_mk]
  · right
    exact ⟨h, rfl⟩
theorem value_r (s : SegD) (step : Int) (hs : SegOk s) (h0 : s.1 ≤ step) (h1 : step < s.2.1) : regimenref24_Value (s, step, ()) = some (SegV s step) := by
  obtain ⟨v, e1, e2, _⟩ := value_ok s step hs h0 h1
  have := (value_p s step hs h0 h1).1
  rw [e1] at this
  have h := congrArg Prod.fst (Option.some.inj this)
  dsimp only at h
  rw [e2, h]

-- pieces one behind the other
def Chain : List SegD → Int → Int → (Int → Int) → Prop
  | [], f, t, _ => f = t
  | s :: r, f, t, g => SegOk s ∧ s.1 = f ∧ (∀ step, s.1 ≤ step → step < s.2.1 → SegV s step = g step) ∧ Chain r s.2.1 t g
theorem chain_app : ∀ (P Q : List SegD) (f m t : Int) (g : Int → Int), Chain P f m g → Chain Q m t g → Chain (P ++ Q) f t g
  | [], Q, f, m, t, g, h1, h2 => by
    have : f = m := h1
    subst this
    exact h2
  | s :: r, Q, f, m, t, g, h1, h2 => ⟨h1.1, h1.2.1, h1.2.2.1, chain_app r Q _ m t g h1.2.2.2 h2⟩
theorem chain_le : ∀ (P : List SegD) (f t : Int) (g : Int → Int), Chain P f t g → f + P.length ≤ t
  | [], f, t, g, h => by
    have : f = t := h
    simp; omega
  | s :: r, f, t, g, h => by
    have h1 := chain_le r _ _ _ h.2.2.2
    have h2 := h.1
    have h3 := h.2.1
    unfold SegOk at h2
    rw [List.length_cons]
    omega
theorem chain_congr : ∀ (P : List SegD) (f t : Int) (g g' : Int → Int), (∀ step, f ≤ step → step < t → g step = g' step) → Chain P f t g → Chain P f t g'
  | [], f, t, g, g', _, h => h
  | s :: r, f, t, g, g', e, h => by
    have h1 := chain_le r _ _ _ h.2.2.2
    have h2 := h.1
    have h3 := h.2.1
    unfold SegOk at h2
    refine ⟨h.1, h.2.1, fun step a b => ?_, chain_congr r _ _ g g' (fun step a b => e step (by omega) b) h.2.2.2⟩
    rw [h.2.2.1 step a b]
    exact e step (by omega) (by omega)
theorem nth_cons_0 {α : Type} (z x : α) (l : List α) : nth z (x :: l) 0 = x := rfl
theorem nth_cons_s {α : Type} (z x : α) (l : List α) (i : Nat) : nth z (x :: l) (i + 1) = nth z l i := rfl
theorem chain_segs : ∀ (P : List SegD) (f t : Int) (g : Int → Int), Chain P f t g → SegsOk P ∧ (0 < P.length → (nth zSeg P 0).1 = f ∧ (nth zSeg P (P.length - 1)).2.1 = t)
  | [], f, t, g, h => ⟨fun i hi => (by cases hi), fun h => (by cases h)⟩
  | s :: r, f, t, g, h => by
    obtain ⟨h1, h2⟩ := chain_segs r _ _ _ h.2.2.2
    refine ⟨fun i hi => ?_, fun _ => ⟨h.2.1, ?_⟩⟩
    · match i, hi with
      | 0, _ => exact ⟨h.1, fun k => by omega⟩
      | i + 1, hi =>
        have hi' : i < r.length := by simpa using hi
        refine ⟨(h1 i hi').1, fun _ => ?_⟩
        rw [nth_cons_s, Nat.add_sub_cancel]
        match i, hi' with
        | 0, hi' => exact (h2 (by omega)).1
        | i + 1, hi' =>
          rw [nth_cons_s]
          have := (h1 (i + 1) hi').2 (by omega)
          rw [Nat.add_sub_cancel] at this
          exact this
    · cases r with
      | nil =>
        have : s.2.1 = t := h.2.2.2
        exact this
      | cons s' r' =>
        have := (h2 (by simp)).2
        rw [List.length_cons, Nat.add_sub_cancel]
        rw [List.length_cons, Nat.add_sub_cancel] at this
        rw [List.length_cons, nth_cons_s]
        exact this
theorem chain_val : ∀ (P : List SegD) (f t : Int) (g : Int → Int), Chain P f t g → ∀ (i : Nat) (step : Int), HasStep P step i → SegV (nth zSeg P i) step = g step
  | [], f, t, g, h, i, step, hs => by have := hs.1; cases this
  | s :: r, f, t, g, h, 0, step, hs => h.2.2.1 step hs.2.1 hs.2.2
  | s :: r, f, t, g, h, i + 1, step, hs => chain_val r _ _ g h.2.2.2 i step ⟨by have := hs.1; simpa using this, hs.2.1, hs.2.2⟩
theorem cover (step : Int) (l : List SegD) (hs : SegsOk l) (h0 : (nth zSeg l 0).1 ≤ step) : ∀ j, j < l.length → step < (nth zSeg l j).2.1 → ∃ i, HasStep l step i
  | 0, hj, h => ⟨0, hj, h0, h⟩
  | j + 1, hj, h => by
    by_cases k : step < (nth zSeg l j).2.1
    · exact cover step l hs h0 j (by omega) k
    · have := (hs (j + 1) hj).2 (by omega)
      rw [Nat.add_sub_cancel] at this
      exact ⟨j + 1, hj, by omega, h⟩
theorem chain_at (P : List SegD) (f t : Int) (g : Int → Int) (h : Chain P f t g) (hl : P.length ≤ 1048576) (h0 : 0 < P.length) (step : Int) :
    (f ≤ step → step < t → segs_At (P, step, ()) = some (g step, 0, ()) ∧ 0 ≤ g step ∧ g step ≤ 4503599627370496) ∧ (¬ (f ≤ step ∧ step < t) → segs_At (P, step, ()) = some (0, 8, ())) := by
  obtain ⟨hs, hf⟩ := chain_segs P f t g h
  obtain ⟨hf1, hf2⟩ := hf h0
  rcases segat_p P step hs h0 (by omega) with ⟨i, h1, h2, h3, h4⟩ | ⟨h1, h2⟩
  · have hv := chain_val P f t g h i step h1
    have hb : 0 ≤ (BoundsS (nth zSeg P i).2.2.2.2.1).1 ∧ (BoundsS (nth zSeg P i).2.2.2.2.1).2.1 ≤ 4503599627370496 := by
      have hc := (hs i h1.1).1.2.2.2.2.2.1
      unfold CurveOk at hc
      unfold BoundsS
      split
      · dsimp only; omega
      · split
        · dsimp only; omega
        · dsimp only; omega
    rw [hv] at h2 h3 h4
    refine ⟨fun _ _ => ⟨h2, by omega, by omega⟩, fun hn => (hn ?_).elim⟩
    have k1 : f ≤ (nth zSeg P i).1 := by
      by_cases hi : i = 0
      · subst hi; omega
      · have k := seg_to P hs i 0 (by omega) h1.1
        have k2 := (hs 0 (by omega)).1
        unfold SegOk at k2
        omega
    have k2 : (nth zSeg P i).2.1 ≤ t := by
      by_cases hi : i = P.length - 1
      · subst hi; omega
      · have k := seg_to P hs (P.length - 1) i (by have := h1.1; omega) (by omega)
        have k2 := (hs (P.length - 1) (by omega)).1
        unfold SegOk at k2
        omega
    have := h1.2
    omega
  · refine ⟨fun a b => ?_, fun _ => h2⟩
    obtain ⟨i, hi⟩ := cover step P hs (by omega) (P.length - 1) (by omega) (by omega)
    exact (h1 i hi).elim
end Go.Proofs.YtggmomkohmcciabGreat.F
