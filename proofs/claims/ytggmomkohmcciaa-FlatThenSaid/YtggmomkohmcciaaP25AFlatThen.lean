/- Schedules made flat: the pieces of one node. -/
import Derived.Test.YtggmomkohmcciaaP14WFlatThen
import Derived.Test.YtggmomkohmcciaaPYQFlatThen
set_option linter.unusedVariables false
set_option linter.unusedSimpArgs false
namespace Go.Proofs.Ytggmomkohmcciaa.F
open Go.VX
open Classical

def WN (d : NodD) (n ep : Int) : Int := WithinS d.2.2.2.2.2.1.1 d.2.2.2.2.2.1.2.1 n ep
noncomputable def AtS (ep : Int) (l : List NodD) (i n : Int) : Int := match l with
  | [] => 0
  | d :: r =>
    if d.1 = 6 then (if i < n * d.2.2.2.2.1 / 100 then CurveS (2, d.2.1, d.2.2.1, 0, ()) i (n * d.2.2.2.2.1 / 100) else CurveS (5, d.2.2.1, d.2.2.2.1, 0, ()) (i - n * d.2.2.2.2.1 / 100) (n - n * d.2.2.2.2.1 / 100))
    else if d.1 = 7 then RestS (5, d.2.1, d.2.2.1, 0, ()) (if WN d n ep < 1 then 1 else WN d n ep) d.2.2.2.2.1 i
    else if d.1 = 8 then (if i < WN d n ep then CurveS (2, d.2.1, AtS ep r 0 (if n - WN d n ep < 1 then 1 else n - WN d n ep), 0, ()) i (WN d n ep + 1) else AtS ep r (i - WN d n ep) (n - WN d n ep))
    else if d.1 = 9 then (if i < WN d n ep then AtS ep r i (WN d n ep) else AtS ep (r.drop ((walk (opsN r) 1).getD 0)) (i - WN d n ep) (n - WN d n ep))
    else CurveS (d.1, d.2.1, d.2.2.1, d.2.2.2.2.1, ()) i n
termination_by l.length
decreasing_by all_goals (simp; try omega)
def PcS (ep : Int) (l : List NodD) (n : Int) : Nat := match l with
  | [] => 0
  | d :: r =>
    if n < 1 then 0
    else if d.1 = 6 then (if n * d.2.2.2.2.1 / 100 = 0 ∨ n * d.2.2.2.2.1 / 100 = n then 1 else 2)
    else if d.1 = 8 then (if WN d n ep = 0 then PcS ep r n else 1 + PcS ep r (n - WN d n ep))
    else if d.1 = 9 then PcS ep r (WN d n ep) + PcS ep (r.drop ((walk (opsN r) 1).getD 0)) (n - WN d n ep)
    else 1
termination_by l.length
decreasing_by all_goals (simp; try omega)
def FlatNode (d : NodD) : Prop := NodeOk d ∧ (d.1 ≤ 5 → CurveOk (d.1, d.2.1, d.2.2.1, d.2.2.2.2.1, ())) ∧ (d.1 = 7 → 1 ≤ d.2.2.2.2.1 ∧ d.2.2.2.2.1 ≤ 16)
theorem node_len {d : NodD} (h : NodeOk d) : LenOkN d.2.2.2.2.2.1.1 d.2.2.2.2.2.1.2.1 := h.2.2.2.2.2.2.2.2.2.2.2.2.2.2.2.2.2
theorem wn_range {d : NodD} (h : NodeOk d) (n ep : Int) (o0 : 0 ≤ n) (o1 : n ≤ 1048576) (e0 : 0 ≤ ep) (e1 : ep ≤ 1000000) : 0 ≤ WN d n ep ∧ WN d n ep ≤ n := within_range _ _ _ _ (node_len h) o0 o1 e0 e1
theorem part_range (n k : Int) (n0 : 0 ≤ n) (k0 : 0 ≤ k) (k1 : k ≤ 100) : 0 ≤ n * k / 100 ∧ n * k / 100 ≤ n := by
  have h1 : 0 ≤ n * k := Int.mul_nonneg n0 k0
  have h2 : n * k ≤ n * 100 := Int.mul_le_mul_of_nonneg_left k1 n0
  omega
theorem line_ok (a b : Int) (k : Int) (hk : k = 2 ∨ k = 5) (h1 : 0 ≤ a ∧ a ≤ 4503599627370496) (h2 : 0 ≤ b ∧ b ≤ 4503599627370496) : CurveOk (k, a, b, 0, ()) := by
  unfold CurveOk
  dsimp only
  omega
theorem seg_flat (f t n : Int) (c : CurveD) (f0 : 0 ≤ f) (ft : f < t) (t1 : t ≤ 1048576) (hc : CurveOk c) (n0 : t - f ≤ n) (n1 : n ≤ 1048576) : SegOk (f, t, f, n, c, 0, 0, ()) := by
  unfold SegOk
  dsimp only
  exact ⟨f0, ft, t1, f0, Int.le_refl _, hc, .inl ⟨rfl, rfl, n0, n1⟩⟩
theorem p_piece (f t n : Int) (c : CurveD) (g : Int → Int) (f0 : 0 ≤ f) (ft : f ≤ t) (t1 : t ≤ 1048576) (hc : CurveOk c) (n0 : t - f ≤ n) (n1 : n ≤ 1048576) (hg : ∀ step, f ≤ step → step < t → CurveS c (step - f) n = g step) :
    ∃ P, flat_piece ((f, t, ()), c, n, ()) = some P ∧ Chain P f t g ∧ P.length = if f = t then 0 else 1 := by
  unfold flat_piece
  dsimp only
  by_cases h : f = t
  · rw [decide_eq_true h, cnd_t, if_pos h]
    exact ⟨[], rfl, h, rfl⟩
  · rw [decide_eq_false h, cnd_f, if_neg h]
    refine ⟨_, rfl, ⟨seg_flat f t n c f0 (by omega) t1 hc n0 n1, rfl, fun step a b => ?_, rfl⟩, rfl⟩
    unfold SegV
    dsimp only
    rw [if_pos rfl]
    exact hg step a b
theorem p_lastsF (u : Unit) (d : NodD) (hd : NodeOk d) (f t ep : Int) (L : List NodD) (ft : f ≤ t) (f0 : 0 ≤ f) (t1 : t ≤ 1048576) (e0 : 0 ≤ ep) (e1 : ep ≤ 1000000) : flat_maker_lasts (((), d, (f, t, ()), ()), ((L, ep, ()), ())) = some (WN d (t - f) ep) := by
  unfold flat_maker_lasts
  dsimp only
  rw [wr_id (x := t - f) (by omega) (by omega)]
  obtain ⟨o, a, b, c, k, ⟨u, m, _⟩, _⟩ := d
  rw [p_Within u m (t - f) ep (node_len hd) (by omega) (by omega) e0 e1]
  rfl
theorem p_cycleF (d : NodD) (r : List NodD) (hd : NodeOk d) (h6 : d.1 = 6) (f t ep : Int) (f0 : 0 ≤ f) (ft : f < t) (t1 : t ≤ 1048576) :
    ∃ P, flat_cycle (d, (f, t, ()), ()) = some P ∧ Chain P f t (fun step => AtS ep (d :: r) (step - f) (t - f)) ∧ P.length = PcS ep (d :: r) (t - f) := by
  have hd' := hd
  unfold NodeOk at hd'
  have hp := part_range (t - f) d.2.2.2.2.1 (by omega) (by omega) (by omega)
  have hm : 0 ≤ (t - f) * d.2.2.2.2.1 := Int.mul_nonneg (by omega) (by omega)
  have hm2 : (t - f) * d.2.2.2.2.1 ≤ (t - f) * 100 := Int.mul_le_mul_of_nonneg_left (by omega) (by omega)
  unfold flat_cycle
  dsimp only
  rw [wr_id (x := t - f) (by omega) (by omega), wr_id (x := (t - f) * d.2.2.2.2.1) (by omega) (by omega), Int.tdiv_eq_ediv_of_nonneg hm, wr_id (x := (t - f) * d.2.2.2.2.1 / 100) (by omega) (by omega)]
  rw [PcS, if_neg (by omega), if_pos h6]
  have hA : ∀ i, AtS ep (d :: r) i (t - f) = if i < (t - f) * d.2.2.2.2.1 / 100 then CurveS (2, d.2.1, d.2.2.1, 0, ()) i ((t - f) * d.2.2.2.2.1 / 100) else CurveS (5, d.2.2.1, d.2.2.2.1, 0, ()) (i - (t - f) * d.2.2.2.2.1 / 100) ((t - f) - (t - f) * d.2.2.2.2.1 / 100) := fun i => by
    rw [AtS, if_pos h6]
  simp only [hA]
  generalize (t - f) * d.2.2.2.2.1 / 100 = m at *
  rw [wr_id (x := f + m) (by omega) (by omega), wr_id (x := f + m - f) (by omega) (by omega), wr_id (x := t - (f + m)) (by omega) (by omega)]
  obtain ⟨P, e1, c1, l1⟩ := p_piece f (f + m) (f + m - f) (2, d.2.1, d.2.2.1, 0, ()) (fun step => if step - f < m then CurveS (2, d.2.1, d.2.2.1, 0, ()) (step - f) m else CurveS (5, d.2.2.1, d.2.2.2.1, 0, ()) (step - f - m) (t - f - m)) f0 (by omega) (by omega) (line_ok _ _ _ (.inl rfl) (by omega) (by omega)) (by omega) (by omega) (fun step a b => by
    rw [if_pos (by omega), show f + m - f = m by omega])
  obtain ⟨Q, e2, c2, l2⟩ := p_piece (f + m) t (t - (f + m)) (5, d.2.2.1, d.2.2.2.1, 0, ()) (fun step => if step - f < m then CurveS (2, d.2.1, d.2.2.1, 0, ()) (step - f) m else CurveS (5, d.2.2.1, d.2.2.2.1, 0, ()) (step - f - m) (t - f - m)) (by omega) (by omega) (by omega) (line_ok _ _ _ (.inr rfl) (by omega) (by omega)) (by omega) (by omega) (fun step a b => by
    rw [if_neg (by omega), show step - (f + m) = step - f - m by omega, show t - (f + m) = t - f - m by omega])
  rw [e1, bnd_mk, e2, bnd_mk, app_ok (by rw [l1, l2]; split <;> split <;> omega), bnd_mk]
  refine ⟨_, rfl, chain_app P Q _ _ _ _ c1 c2, ?_⟩
  rw [List.length_append, l1, l2]
  by_cases h1 : m = 0
  · rw [if_pos (by omega), if_neg (by omega), if_pos (.inl h1)]
  · by_cases h2 : m = t - f
    · rw [if_neg (by omega), if_pos (by omega), if_pos (.inr h2)]
    · rw [if_neg (by omega), if_neg (by omega), if_neg (by omega)]
theorem p_restartF (d : NodD) (r L : List NodD) (hd : FlatNode d) (h7 : d.1 = 7) (f t ep : Int) (f0 : 0 ≤ f) (ft : f < t) (t1 : t ≤ 1048576) (e0 : 0 ≤ ep) (e1 : ep ≤ 1000000) :
    ∃ P, flat_maker_restart (((), d, (f, t, ()), ()), ((L, ep, ()), ())) = some P ∧ Chain P f t (fun step => AtS ep (d :: r) (step - f) (t - f)) ∧ P.length = PcS ep (d :: r) (t - f) := by
  have hd' := hd.1
  unfold NodeOk at hd'
  have hk := hd.2.2 h7
  have hw := wn_range hd.1 (t - f) ep (by omega) (by omega) e0 e1
  unfold flat_maker_restart
  dsimp only
  rw [p_lastsF () d hd.1 f t ep L (by omega) f0 t1 e0 e1, bnd_mk, show maxL (WN d (t - f) ep) [1] = (if WN d (t - f) ep < 1 then 1 else WN d (t - f) ep) from rfl]
  have hP : PcS ep (d :: r) (t - f) = 1 := by
    rw [PcS, if_neg (by omega), if_neg (by omega), if_neg (by omega), if_neg (by omega)]
  rw [hP]
  refine ⟨_, rfl, ⟨?_, rfl, fun step a b => ?_, rfl⟩, rfl⟩
  · unfold SegOk
    dsimp only
    refine ⟨f0, ft, t1, f0, Int.le_refl _, line_ok _ _ _ (.inr rfl) (by omega) (by omega), .inr ?_⟩
    split <;> omega
  · have hA : AtS ep (d :: r) (step - f) (t - f) = RestS (5, d.2.1, d.2.2.1, 0, ()) (if WN d (t - f) ep < 1 then 1 else WN d (t - f) ep) d.2.2.2.2.1 (step - f) := by
      rw [AtS, if_neg (by omega), if_pos h7]
    have hne : ¬ (if WN d (t - f) ep < 1 then (1 : Int) else WN d (t - f) ep) = 0 := by split <;> omega
    show SegV _ step = AtS ep (d :: r) (step - f) (t - f)
    rw [hA]
    unfold SegV
    dsimp only
    rw [if_neg hne]
theorem p_leafF (d : NodD) (r : List NodD) (hd : FlatNode d) (h5 : d.1 ≤ 5) (f t ep : Int) (f0 : 0 ≤ f) (ft : f < t) (t1 : t ≤ 1048576) :
    ∃ P, (bnd (flat_of (d, ())) fun r6 => bnd (flat_piece ((f, t, ()), r6, wr .i64 (t - f), ())) fun r7 => some r7) = some P ∧ Chain P f t (fun step => AtS ep (d :: r) (step - f) (t - f)) ∧ P.length = PcS ep (d :: r) (t - f) := by
  unfold flat_of
  dsimp only
  rw [bnd_mk, wr_id (x := t - f) (by omega) (by omega), PcS, if_neg (by omega), if_neg (by omega), if_neg (by omega), if_neg (by omega)]
  obtain ⟨P, e1, c1, l1⟩ := p_piece f t (t - f) (d.1, d.2.1, d.2.2.1, d.2.2.2.2.1, ()) (fun step => AtS ep (d :: r) (step - f) (t - f)) f0 (by omega) t1 (hd.2.1 h5) (by omega) (by omega) (fun step a b => by
    rw [AtS, if_neg (by omega), if_neg (by omega), if_neg (by omega), if_neg (by omega)])
  rw [e1, bnd_mk]
  exact ⟨P, rfl, c1, by rw [l1, if_neg (by omega)]⟩
end Go.Proofs.Ytggmomkohmcciaa.F
