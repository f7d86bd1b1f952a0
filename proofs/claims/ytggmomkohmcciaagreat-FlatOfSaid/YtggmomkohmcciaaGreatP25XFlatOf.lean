/- Schedules made flat: how many pieces: the reference's; the plain example of the laws. -/
import Derived.Test.YtggmomkohmcciaaGreatP25RFlatOf
set_option linter.unusedVariables false
set_option linter.unusedSectionVars false
set_option linter.unusedSimpArgs false
namespace Go.Proofs.YtggmomkohmcciaaGreat.F
open Go.VX
open Classical

theorem pc_zero (ep : Int) (l : List NodD) (n : Int) (h : n < 1) : PcS ep l n = 0 := by
  cases l with
  | nil => rw [PcS]
  | cons d r => rw [PcS, if_pos h]
theorem pc_le (ep : Int) (e0 : 0 ≤ ep) (e1 : ep ≤ 1000000) : ∀ (N : Nat) (l : List NodD), l.length ≤ N → FlatAll l → ∀ n : Int, 0 ≤ n → n ≤ 1048576 → (PcS ep l n : Int) ≤ 2 * n
  | _, [], _, _, n, n0, _ => by rw [PcS]; omega
  | 0, d :: r, h, _, _, _, _ => by simp at h
  | N + 1, d :: r, h, hF, n, n0, n1 => by
    have hr : r.length ≤ N := by simpa using h
    have hd := hF d (List.mem_cons_self ..)
    have hFr : FlatAll r := fun x hx => hF x (List.mem_cons_of_mem _ hx)
    have hw := wn_range hd.1 n ep n0 n1 e0 e1
    rw [PcS]
    by_cases h1 : n < 1
    · rw [if_pos h1]; omega
    rw [if_neg h1]
    by_cases h6 : d.1 = 6
    · rw [if_pos h6]; split <;> omega
    rw [if_neg h6]
    by_cases h8 : d.1 = 8
    · rw [if_pos h8]
      by_cases hw0 : WN d n ep = 0
      · rw [if_pos hw0]; exact pc_le ep e0 e1 N r hr hFr n n0 n1
      · rw [if_neg hw0]
        have := pc_le ep e0 e1 N r hr hFr (n - WN d n ep) (by omega) (by omega)
        omega
    rw [if_neg h8]
    by_cases h9 : d.1 = 9
    · rw [if_pos h9]
      have a := pc_le ep e0 e1 N r hr hFr (WN d n ep) (by omega) (by omega)
      have b := pc_le ep e0 e1 N (r.drop ((walk (opsN r) 1).getD 0)) (by rw [List.length_drop]; omega) (fun x hx => hFr x (List.mem_of_mem_drop hx)) (n - WN d n ep) (by omega) (by omega)
      omega
    · rw [if_neg h9]; omega
section
variable (l : List NodD) (ep : Int) (hl : l.length ≤ 64) (hn : FlatAll l) (e0 : 0 ≤ ep) (e1 : ep ≤ 1000000)
include hl hn e0 e1
theorem pc_drop (i : Nat) (n : Int) (n0 : 0 ≤ n) (n1 : n ≤ 1048576) : (PcS ep (l.drop i) n : Int) ≤ 2 * n := pc_le ep e0 e1 _ (l.drop i) (Nat.le_refl _) (flat_drop hn i) n n0 n1
theorem r_Pc_r : ∀ (n at' : Nat) (m : Int), at' < l.length → WholeAt (opsN l) at' → 0 ≤ m → m ≤ 1000000 →
    regimenref25_Pieces_r n (l, (at' : Int), m, ep, ()) = some ((PcS ep (l.drop at') m : Nat) : Int) ∨ (regimenref25_Pieces_r n (l, (at' : Int), m, ep, ()) = none ∧ n ≤ l.length - at')
  | 0, at', m, ha, hw, m0, m1 => .inr ⟨rfl, by omega⟩
  | n + 1, at', m, ha, hw, m0, m1 => by
    have hd := flat_nth hn ha
    have hcons := drop_nod l ha
    obtain ⟨k, hk⟩ := id hw
    have hdo := hd.1
    unfold NodeOk at hdo
    have hwn := wn_range hd.1 m ep (by omega) (by omega) e0 e1
    have hW : regimenref14_Within ((nth zNod l at').2.2.2.2.2.1, m, ep, ()) = some (WN (nth zNod l at') m ep) := by
      generalize nth zNod l at' = d at *
      obtain ⟨o, a, b, c, k, ⟨u, z, _⟩, _⟩ := d
      exact r_Within u z m ep (node_len hd.1) (by omega) (by omega) e0 e1
    unfold regimenref25_Pieces_r
    dsimp only
    by_cases h1 : m < 1
    · left
      rw [decide_eq_true h1, pc_zero ep _ m h1]; rfl
    rw [decide_eq_false h1, cnd_f, ati_d zNod ha, bnd_mk, hW, bnd_mk, hcons, PcS, if_neg h1]
    by_cases h6 : (nth zNod l at').1 = 6
    · left
      have hp := part_range m (nth zNod l at').2.2.2.2.1 (by omega) (by omega) (by omega)
      have hm : 0 ≤ m * (nth zNod l at').2.2.2.2.1 := Int.mul_nonneg (by omega) (by omega)
      have hm2 : m * (nth zNod l at').2.2.2.2.1 ≤ m * 100 := Int.mul_le_mul_of_nonneg_left (by omega) (by omega)
      rw [decide_eq_true h6, cnd_t, wr_id (x := m * (nth zNod l at').2.2.2.2.1) (by omega) (by omega), Int.tdiv_eq_ediv_of_nonneg hm, wr_id (x := m * (nth zNod l at').2.2.2.2.1 / 100) (by omega) (by omega), if_pos h6]
      generalize m * (nth zNod l at').2.2.2.2.1 / 100 = p at *
      by_cases q1 : p = 0
      · rw [decide_eq_true q1, if_pos (.inl q1)]; rfl
      · by_cases q2 : p = m
        · rw [decide_eq_false q1, decide_eq_true q2, if_pos (.inr q2)]; rfl
        · rw [decide_eq_false q1, decide_eq_false q2, if_neg (by omega)]; rfl
    rw [decide_eq_false h6, cnd_f, if_neg h6]
    by_cases h8 : (nth zNod l at').1 = 8
    · have hkid : ∃ k1, walk ((opsN l).drop (at' + 1)) 1 = some k1 := by
        rcases whole_kids l ha hk with h | ⟨_, h⟩ | ⟨h, _⟩
        · rw [arN_8 h8] at h; cases h
        · exact h
        · rw [arN_8 h8] at h; cases h
      obtain ⟨k1, hk1⟩ := hkid
      have ha1 := inl_at l hk1
      rw [decide_eq_true h8, cnd_t, if_pos h8, wr_id (x := (at' : Int) + 1) (by omega) (by omega), show (at' : Int) + 1 = ((at' + 1 : Nat) : Int) by omega]
      generalize WN (nth zNod l at') m ep = w at *
      by_cases hw0 : w = 0
      · rw [decide_eq_true hw0, cnd_t, if_pos hw0]
        rcases r_Pc_r n (at' + 1) m ha1 ⟨k1, hk1⟩ m0 m1 with p1 | ⟨p1, p2⟩
        · left
          rw [p1]; rfl
        · right
          refine ⟨?_, by omega⟩
          rw [p1]; rfl
      · rw [decide_eq_false hw0, cnd_f, if_neg hw0, wr_id (x := m - w) (by omega) (by omega)]
        rcases r_Pc_r n (at' + 1) (m - w) ha1 ⟨k1, hk1⟩ (by omega) (by omega) with p1 | ⟨p1, p2⟩
        · left
          have hb := pc_drop l ep hl hn e0 e1 (at' + 1) (m - w) (by omega) (by omega)
          rw [p1, bnd_mk, wr_id (by omega) (by omega)]
          rfl
        · right
          refine ⟨?_, by omega⟩
          rw [p1]; rfl
    rw [decide_eq_false h8, cnd_f, if_neg h8]
    by_cases h9 : (nth zNod l at').1 = 9
    · have hkid : ∃ k1 k2, walk ((opsN l).drop (at' + 1)) 1 = some k1 ∧ walk ((opsN l).drop (at' + 1 + k1)) 1 = some k2 ∧ 0 < k1 := by
        rcases whole_kids l ha hk with h | ⟨h, _⟩ | ⟨_, h⟩
        · rw [arN_9 h9] at h; cases h
        · rw [arN_9 h9] at h; cases h
        · exact h
      obtain ⟨k1, k2, hk1, hk2, hk0⟩ := hkid
      have ha1 := inl_at l hk1
      have ha2 := inl_at l hk2
      rw [decide_eq_true h9, cnd_t, if_pos h9, ops_dropL, hk1, Option.getD_some, List.drop_drop, wr_id (x := (at' : Int) + 1) (by omega) (by omega), show (at' : Int) + 1 = ((at' + 1 : Nat) : Int) by omega]
      generalize WN (nth zNod l at') m ep = w at *
      rw [wr_id (x := m - w) (by omega) (by omega)]
      rcases r_Pc_r n (at' + 1) w ha1 ⟨k1, hk1⟩ (by omega) (by omega) with p1 | ⟨p1, p2⟩
      · rw [p1, bnd_mk, r_end l (at' + 1) (by omega) (by omega), resE_some l hk1, bnd_mk]
        rcases r_Pc_r n (at' + 1 + k1) (m - w) ha2 ⟨k2, hk2⟩ (by omega) (by omega) with q1 | ⟨q1, q2⟩
        · left
          have hb := pc_drop l ep hl hn e0 e1 (at' + 1) w (by omega) (by omega)
          have hb2 := pc_drop l ep hl hn e0 e1 (at' + 1 + k1) (m - w) (by omega) (by omega)
          rw [q1, bnd_mk, wr_id (by omega) (by omega)]
          rfl
        · right
          refine ⟨?_, by omega⟩
          rw [q1]; rfl
      · right
        refine ⟨?_, by omega⟩
        rw [p1]; rfl
    · left
      rw [decide_eq_false h9, cnd_f, if_neg h9]; rfl
theorem r_Pc (at' : Nat) (m : Int) (ha : at' < l.length) (hw : WholeAt (opsN l) at') (m0 : 0 ≤ m) (m1 : m ≤ 1000000) : regimenref25_Pieces (l, (at' : Int), m, ep, ()) = some ((PcS ep (l.drop at') m : Nat) : Int) := by
  unfold regimenref25_Pieces
  refine recP_is (fun n y hy => ?_) (l.length + 1) ?_
  · rcases r_Pc_r l ep hl hn e0 e1 n at' m ha hw m0 m1 with g | ⟨g, _⟩
    · rw [g] at hy; exact (Option.some.inj hy).symm
    · rw [g] at hy; cases hy
  · rcases r_Pc_r l ep hl hn e0 e1 (l.length + 1) at' m ha hw m0 m1 with g | ⟨_, g⟩
    · exact g
    · omega
end
end Go.Proofs.YtggmomkohmcciaaGreat.F
