/- Schedules made flat: the reference's value and pieces; a value is within the ends. -/
import Derived.Test.YtggmomkohmcciaaGreatP25CFlatOf
import Derived.Test.YtggmomkohmcciaaGreatP15EFlatOf
set_option linter.unusedVariables false
set_option linter.unusedSimpArgs false
namespace Go.Proofs.YtggmomkohmcciaaGreat.F
open Go.VX
open Classical

theorem atS_in (ep lo hi : Int) (e0 : 0 ≤ ep) (e1 : ep ≤ 1000000) (hlo : 0 ≤ lo) (hhi : hi ≤ 4503599627370496) : ∀ (N : Nat) (l : List NodD), l.length ≤ N → FlatAll l → (∀ d ∈ l, ∀ x ∈ endsF d, lo ≤ x ∧ x ≤ hi) → WholeAt (opsN l) 0 → ∀ (i n : Int), 0 ≤ i → i < n → n + dep (opsN l) ≤ 1000100 → lo ≤ AtS ep l i n ∧ AtS ep l i n ≤ hi
  | N, [], hN, hF, hE, hw, i, n, i0, i1, hn => by
    obtain ⟨k, hk⟩ := hw
    simp [opsN, walk] at hk
  | 0, d :: r, hN, _, _, _, _, _, _, _, _ => by simp at hN
  | N + 1, d :: r, hN, hF, hE, hw, i, n, i0, i1, hn => by
    have hd := hF d (List.mem_cons_self ..)
    have hFr : FlatAll r := fun x hx => hF x (List.mem_cons_of_mem _ hx)
    have hEr : ∀ x ∈ r, ∀ y ∈ endsF x, lo ≤ y ∧ y ≤ hi := fun x hx => hE x (List.mem_cons_of_mem _ hx)
    have hEd := hE d (List.mem_cons_self ..)
    have hdo := hd.1
    unfold NodeOk at hdo
    have hNr : r.length ≤ N := by simpa using hN
    obtain ⟨k, hk⟩ := hw
    have hlen : 0 < (d :: r).length := by simp
    have hkids := whole_kids (d :: r) hlen hk
    have hn0 : nth zNod (d :: r) 0 = d := rfl
    rw [hn0] at hkids
    have hdr : ∀ j, (opsN (d :: r)).drop (0 + 1 + j) = (opsN r).drop j := fun j => by
      rw [Nat.zero_add, Nat.add_comm]; rfl
    have hdr0 : (opsN (d :: r)).drop (0 + 1) = opsN r := rfl
    by_cases h6 : d.1 = 6
    · have hA : lo ≤ d.2.1 ∧ d.2.1 ≤ hi ∧ lo ≤ d.2.2.1 ∧ d.2.2.1 ≤ hi ∧ lo ≤ d.2.2.2.1 ∧ d.2.2.2.1 ≤ hi := by
        unfold endsF at hEd
        rw [if_neg (by omega), if_neg (by omega), if_pos h6] at hEd
        have a := hEd d.2.1 (by simp)
        have b := hEd d.2.2.1 (by simp)
        have c := hEd d.2.2.2.1 (by simp)
        omega
      have hp := part_range n d.2.2.2.2.1 (by omega) (by omega) (by omega)
      rw [AtS, if_pos h6]
      by_cases hi6 : i < n * d.2.2.2.2.1 / 100
      · rw [if_pos hi6]
        exact curve_lohi _ _ _ lo hi (line_ok _ _ _ (.inl rfl) (by omega) (by omega)) (by omega) i0 hi6 (by dsimp only; omega) (fun _ => by dsimp only; omega)
      · rw [if_neg hi6]
        exact curve_lohi _ _ _ lo hi (line_ok _ _ _ (.inr rfl) (by omega) (by omega)) (by omega) (by omega) (by omega) (by dsimp only; omega) (fun _ => by dsimp only; omega)
    by_cases h7 : d.1 = 7
    · have hA : lo ≤ d.2.1 ∧ d.2.1 ≤ hi ∧ lo ≤ d.2.2.1 ∧ d.2.2.1 ≤ hi := by
        unfold endsF at hEd
        rw [if_neg (by omega), if_neg (by omega), if_neg (by omega)] at hEd
        have a := hEd d.2.1 (by simp)
        have b := hEd d.2.2.1 (by simp)
        omega
      have hwn := wn_range hd.1 n ep (by omega) (by omega) e0 e1
      have hk7 := hd.2.2 h7
      have hA7 : AtS ep (d :: r) i n = RestS (5, d.2.1, d.2.2.1, 0, ()) (if WN d n ep < 1 then 1 else WN d n ep) d.2.2.2.2.1 i := by
        rw [AtS, if_neg h6, if_pos h7]
      rw [hA7]
      have hF1 : 1 ≤ (if WN d n ep < 1 then (1 : Int) else WN d n ep) ∧ (if WN d n ep < 1 then (1 : Int) else WN d n ep) ≤ 1048576 := by split <;> omega
      obtain ⟨m, _, hm⟩ := p_cycle _ d.2.2.2.2.1 i hF1.1 hF1.2 hk7.1 hk7.2 i0 (by omega)
      have h1 := rest_in (5, d.2.1, d.2.2.1, 0, ()) (line_ok _ _ _ (.inr rfl) (by omega) (by omega)) _ d.2.2.2.2.1 i hF1.1 hF1.2 hk7.1 m hm i0
      have h2 := bounds_in (5, d.2.1, d.2.2.1, 0, ()) lo hi (by dsimp only; omega) (fun _ => by dsimp only; omega)
      omega
    have hwn := wn_range hd.1 n ep (by omega) (by omega) e0 e1
    by_cases h8 : d.1 = 8
    · have hA : lo ≤ d.2.1 ∧ d.2.1 ≤ hi := by
        unfold endsF at hEd
        rw [if_neg (by omega), if_pos (.inr h8)] at hEd
        exact hEd d.2.1 (by simp)
      have hkid : WholeAt (opsN r) 0 := by
        rcases hkids with h | ⟨_, h⟩ | ⟨h, _⟩
        · rw [arN_8 h8] at h; cases h
        · exact h
        · rw [arN_8 h8] at h; cases h
      have hdep : dep (opsN (d :: r)) = dep (opsN r) + 1 := (bel_1 (d :: r) hlen (arN_8 h8)).2
      rw [hdep] at hn
      have hA8 : AtS ep (d :: r) i n = if i < WN d n ep then CurveS (2, d.2.1, AtS ep r 0 (if n - WN d n ep < 1 then 1 else n - WN d n ep), 0, ()) i (WN d n ep + 1) else AtS ep r (i - WN d n ep) (n - WN d n ep) := by
        rw [AtS, if_neg h6, if_neg h7, if_pos h8]
      rw [hA8]
      generalize WN d n ep = w at *
      have hleft : 1 ≤ (if n - w < 1 then (1 : Int) else n - w) ∧ (if n - w < 1 then (1 : Int) else n - w) ≤ n := by split <;> omega
      generalize (if n - w < 1 then (1 : Int) else n - w) = lf at *
      by_cases hi8 : i < w
      · rw [if_pos hi8]
        have h0 := atS_in ep lo hi e0 e1 hlo hhi N r hNr hFr hEr hkid 0 lf (by omega) (by omega) (by omega)
        exact curve_lohi _ _ _ lo hi (line_ok _ _ _ (.inl rfl) (by omega) (by omega)) (by omega) i0 (by omega) (by dsimp only; omega) (fun _ => by dsimp only; omega)
      · rw [if_neg hi8]
        exact atS_in ep lo hi e0 e1 hlo hhi N r hNr hFr hEr hkid (i - w) (n - w) (by omega) (by omega) (by omega)
    by_cases h9 : d.1 = 9
    · have hkid : ∃ k1 k2, walk (opsN r) 1 = some k1 ∧ walk ((opsN r).drop k1) 1 = some k2 := by
        rcases hkids with h | ⟨h, _⟩ | ⟨_, k1, k2, a, b, _⟩
        · rw [arN_9 h9] at h; cases h
        · rw [arN_9 h9] at h; cases h
        · rw [hdr0] at a
          rw [hdr] at b
          exact ⟨k1, k2, a, b⟩
      obtain ⟨k1, k2, hk1, hk2⟩ := hkid
      have hdep : dep (opsN (d :: r)) = max (dep (opsN r)) (dep ((opsN r).drop k1)) + 1 := by
        have := (bel_2 (d :: r) hlen (arN_9 h9) (k1 := k1) hk1).2
        rw [hdr, hdr0] at this
        exact this
      rw [hdep] at hn
      have hA9 : AtS ep (d :: r) i n = if i < WN d n ep then AtS ep r i (WN d n ep) else AtS ep (r.drop k1) (i - WN d n ep) (n - WN d n ep) := by
        rw [AtS, if_neg h6, if_neg h7, if_neg h8, if_pos h9, hk1, Option.getD_some]
      rw [hA9]
      generalize WN d n ep = w at *
      by_cases hi9 : i < w
      · rw [if_pos hi9]
        exact atS_in ep lo hi e0 e1 hlo hhi N r hNr hFr hEr ⟨k1, hk1⟩ i w i0 hi9 (by omega)
      · rw [if_neg hi9]
        refine atS_in ep lo hi e0 e1 hlo hhi N (r.drop k1) (by rw [List.length_drop]; omega) (fun x hx => hFr x (List.mem_of_mem_drop hx)) (fun x hx => hEr x (List.mem_of_mem_drop hx)) ?_ (i - w) (n - w) (by omega) (by omega) ?_
        · rw [ops_dropL]; exact ⟨k2, hk2⟩
        · rw [ops_dropL]; omega
    · have hA : lo ≤ d.2.1 ∧ d.2.1 ≤ hi ∧ (d.1 ≠ 1 → lo ≤ d.2.2.1 ∧ d.2.2.1 ≤ hi) := by
        unfold endsF at hEd
        rw [if_neg (by omega)] at hEd
        by_cases h1 : d.1 = 1
        · rw [if_pos (.inl h1)] at hEd
          have a := hEd d.2.1 (by simp)
          exact ⟨a.1, a.2, fun k => (k h1).elim⟩
        · rw [if_neg (by omega), if_neg (by omega)] at hEd
          have a := hEd d.2.1 (by simp)
          have b := hEd d.2.2.1 (by simp)
          exact ⟨a.1, a.2, fun _ => b⟩
      rw [AtS, if_neg h6, if_neg h7, if_neg h8, if_neg h9]
      exact curve_lohi _ _ _ lo hi (hd.2.1 (by omega)) (by omega) i0 i1 ⟨hA.1, hA.2.1⟩ hA.2.2
section
variable (l : List NodD) (ep : Int) (hl : l.length ≤ 64) (hn : FlatAll l) (e0 : 0 ≤ ep) (e1 : ep ≤ 1000000)
theorem flat_drop {l : List NodD} (h : FlatAll l) (i : Nat) : FlatAll (l.drop i) := fun d hd => h d (List.mem_of_mem_drop hd)
include hn e0 e1
theorem atS_q (at' : Nat) (hw : WholeAt (opsN l) at') (i n : Int) (i0 : 0 ≤ i) (i1 : i < n) (h : n + dep ((opsN l).drop at') ≤ 1000100) : 0 ≤ AtS ep (l.drop at') i n ∧ AtS ep (l.drop at') i n ≤ 4503599627370496 := by
  refine atS_in ep 0 4503599627370496 e0 e1 (by omega) (by omega) _ (l.drop at') (Nat.le_refl _) (flat_drop hn at') (fun d hd x hx => ?_) ?_ i n i0 i1 (by rw [ops_dropL]; exact h)
  · exact allE_q (l.drop at') (fun d hd => node_q (flat_drop hn at' d hd).1) x (mem_allE _ d x hd hx)
  · obtain ⟨k, hk⟩ := hw
    exact ⟨k, by rw [List.drop_zero, ops_dropL]; exact hk⟩
include hl
theorem r_At_r : ∀ (n at' : Nat) (i m : Int), at' < l.length → WholeAt (opsN l) at' → 0 ≤ i → i < m → m + dep ((opsN l).drop at') ≤ 1000100 →
    regimenref25_At_r n (l, (at' : Int), i, m, ep, ()) = some (AtS ep (l.drop at') i m) ∨ (regimenref25_At_r n (l, (at' : Int), i, m, ep, ()) = none ∧ n ≤ l.length - at')
  | 0, at', i, m, ha, hw, i0, i1, h => .inr ⟨rfl, by omega⟩
  | n + 1, at', i, m, ha, hw, i0, i1, h => by
    have hd := flat_nth hn ha
    have hcons := drop_nod l ha
    obtain ⟨k, hk⟩ := id hw
    have hdo := hd.1
    unfold NodeOk at hdo
    have hwn := wn_range hd.1 m ep (by omega) (by omega) e0 e1
    have hW : regimenref14_Within ((nth zNod l at').2.2.2.2.2.1, m, ep, ()) = some (WN (nth zNod l at') m ep) := by
      generalize nth zNod l at' = d at *
      obtain ⟨o, a, b, c, k, ⟨u, z, _⟩, _⟩ := d
      exact r_Within u z m ep (node_len hd.1) (by omega) (by omega) e0 e1
    unfold regimenref25_At_r
    dsimp only
    rw [ati_d zNod ha, bnd_mk, hW, bnd_mk, hcons]
    by_cases h6 : (nth zNod l at').1 = 6
    · left
      have hp := part_range m (nth zNod l at').2.2.2.2.1 (by omega) (by omega) (by omega)
      have hm : 0 ≤ m * (nth zNod l at').2.2.2.2.1 := Int.mul_nonneg (by omega) (by omega)
      have hm2 : m * (nth zNod l at').2.2.2.2.1 ≤ m * 100 := Int.mul_le_mul_of_nonneg_left (by omega) (by omega)
      rw [decide_eq_true h6, cnd_t, wr_id (x := m * (nth zNod l at').2.2.2.2.1) (by omega) (by omega), Int.tdiv_eq_ediv_of_nonneg hm, wr_id (x := m * (nth zNod l at').2.2.2.2.1 / 100) (by omega) (by omega), AtS, if_pos h6]
      generalize m * (nth zNod l at').2.2.2.2.1 / 100 = p at *
      by_cases hi6 : i < p
      · rw [decide_eq_true hi6, cnd_t, if_pos hi6, r_atS _ _ _ (line_ok _ _ _ (.inl rfl) (by omega) (by omega)) (by omega) (by omega) i0 hi6]; rfl
      · rw [decide_eq_false hi6, cnd_f, if_neg hi6, wr_id (x := i - p) (by omega) (by omega), wr_id (x := m - p) (by omega) (by omega), r_atS _ _ _ (line_ok _ _ _ (.inr rfl) (by omega) (by omega)) (by omega) (by omega) (by omega) (by omega)]; rfl
    rw [decide_eq_false h6, cnd_f]
    by_cases h7 : (nth zNod l at').1 = 7
    · left
      have hk7 := hd.2.2 h7
      have hA7 : AtS ep (nth zNod l at' :: l.drop (at' + 1)) i m = RestS (5, (nth zNod l at').2.1, (nth zNod l at').2.2.1, 0, ()) (if WN (nth zNod l at') m ep < 1 then 1 else WN (nth zNod l at') m ep) (nth zNod l at').2.2.2.2.1 i := by
        rw [AtS, if_neg h6, if_pos h7]
      rw [hA7, decide_eq_true h7, cnd_t]
      generalize WN (nth zNod l at') m ep = w at *
      have hj : ∀ {β : Type} (K : Int × Unit → Option β), (bnd (cnd (decide (w < 1)) (some (1, ())) (some (w, ()))) K) = K ((if w < 1 then 1 else w), ()) := fun K => by
        by_cases hw1 : w < 1
        · rw [decide_eq_true hw1, if_pos hw1]; rfl
        · rw [decide_eq_false hw1, if_neg hw1]; rfl
      rw [hj]
      dsimp only
      have hF1 : 1 ≤ (if w < 1 then (1 : Int) else w) ∧ (if w < 1 then (1 : Int) else w) ≤ 1048576 := by split <;> omega
      generalize (if w < 1 then (1 : Int) else w) = F at *
      obtain ⟨q, e2, k2⟩ := r_cycle F (nth zNod l at').2.2.2.2.1 i hF1.1 hF1.2 hk7.1 hk7.2 i0 (by omega)
      have hs := cy_spec F (nth zNod l at').2.2.2.2.1 hF1.1 hF1.2 hk7.1 q
      have hi := cy_in k2 i0
      have hj2 := k2.1
      rw [e2, bnd_mk]
      dsimp only
      unfold RestS
      rw [cyN_is k2, wr_id (x := i - _) (by omega) (by omega), wr_id (by omega) (by omega), r_atS _ _ _ (line_ok _ _ _ (.inr rfl) (by omega) (by omega)) (by omega) (by omega) (by omega) (by omega)]
      rfl
    rw [decide_eq_false h7, cnd_f]
    by_cases h8 : (nth zNod l at').1 = 8
    · have hkid : ∃ k1, walk ((opsN l).drop (at' + 1)) 1 = some k1 := by
        rcases whole_kids l ha hk with h | ⟨_, h⟩ | ⟨h, _⟩
        · rw [arN_8 h8] at h; cases h
        · exact h
        · rw [arN_8 h8] at h; cases h
      obtain ⟨k1, hk1⟩ := hkid
      have ha1 := inl_at l hk1
      have hdep := (bel_1 l ha (arN_8 h8)).2
      have hA8 : AtS ep (nth zNod l at' :: l.drop (at' + 1)) i m = if i < WN (nth zNod l at') m ep then CurveS (2, (nth zNod l at').2.1, AtS ep (l.drop (at' + 1)) 0 (if m - WN (nth zNod l at') m ep < 1 then 1 else m - WN (nth zNod l at') m ep), 0, ()) i (WN (nth zNod l at') m ep + 1) else AtS ep (l.drop (at' + 1)) (i - WN (nth zNod l at') m ep) (m - WN (nth zNod l at') m ep) := by
        rw [AtS, if_neg h6, if_neg h7, if_pos h8]
      rw [hA8, decide_eq_true h8, cnd_t, wr_id (x := (at' : Int) + 1) (by omega) (by omega), show (at' : Int) + 1 = ((at' + 1 : Nat) : Int) by omega]
      generalize WN (nth zNod l at') m ep = w at *
      by_cases hi8 : i < w
      · rw [decide_eq_false (by omega : ¬ i ≥ w), cnd_f, if_pos hi8, wr_id (x := m - w) (by omega) (by omega)]
        have hj : ∀ {β : Type} (K : Int × Unit → Option β), (bnd (cnd (decide (m - w < 1)) (some (1, ())) (some (m - w, ()))) K) = K ((if m - w < 1 then 1 else m - w), ()) := fun K => by
          by_cases hw1 : m - w < 1
          · rw [decide_eq_true hw1, if_pos hw1]; rfl
          · rw [decide_eq_false hw1, if_neg hw1]; rfl
        rw [hj]
        dsimp only
        have hleft : 1 ≤ (if m - w < 1 then (1 : Int) else m - w) ∧ (if m - w < 1 then (1 : Int) else m - w) ≤ m := by split <;> omega
        generalize (if m - w < 1 then (1 : Int) else m - w) = lf at *
        rcases r_At_r n (at' + 1) 0 lf ha1 ⟨k1, hk1⟩ (by omega) (by omega) (by omega) with p1 | ⟨p1, p2⟩
        · left
          have hq := atS_q l ep hn e0 e1 (at' + 1) ⟨k1, hk1⟩ 0 lf (by omega) (by omega) (by omega)
          rw [p1, bnd_mk, wr_id (x := w + 1) (by omega) (by omega), r_atS _ _ _ (line_ok _ _ _ (.inl rfl) (by omega) hq) (by omega) (by omega) i0 (by omega)]
          rfl
        · right
          refine ⟨?_, by omega⟩
          rw [p1]; rfl
      · rw [decide_eq_true (by omega : i ≥ w), cnd_t, if_neg hi8, wr_id (x := i - w) (by omega) (by omega), wr_id (x := m - w) (by omega) (by omega)]
        rcases r_At_r n (at' + 1) (i - w) (m - w) ha1 ⟨k1, hk1⟩ (by omega) (by omega) (by omega) with p1 | ⟨p1, p2⟩
        · left
          rw [p1]; rfl
        · right
          refine ⟨?_, by omega⟩
          rw [p1]; rfl
    rw [decide_eq_false h8, cnd_f]
    by_cases h9 : (nth zNod l at').1 = 9
    · have hkid : ∃ k1 k2, walk ((opsN l).drop (at' + 1)) 1 = some k1 ∧ walk ((opsN l).drop (at' + 1 + k1)) 1 = some k2 ∧ 0 < k1 := by
        rcases whole_kids l ha hk with h | ⟨h, _⟩ | ⟨_, h⟩
        · rw [arN_9 h9] at h; cases h
        · rw [arN_9 h9] at h; cases h
        · exact h
      obtain ⟨k1, k2, hk1, hk2, hk0⟩ := hkid
      have ha1 := inl_at l hk1
      have ha2 := inl_at l hk2
      have hdep := (bel_2 l ha (arN_9 h9) hk1).2
      have hA9 : AtS ep (nth zNod l at' :: l.drop (at' + 1)) i m = if i < WN (nth zNod l at') m ep then AtS ep (l.drop (at' + 1)) i (WN (nth zNod l at') m ep) else AtS ep (l.drop (at' + 1 + k1)) (i - WN (nth zNod l at') m ep) (m - WN (nth zNod l at') m ep) := by
        rw [AtS, if_neg h6, if_neg h7, if_neg h8, if_pos h9, ops_dropL, hk1, Option.getD_some, List.drop_drop]
      rw [hA9, decide_eq_true h9, cnd_t, wr_id (x := (at' : Int) + 1) (by omega) (by omega), show (at' : Int) + 1 = ((at' + 1 : Nat) : Int) by omega]
      generalize WN (nth zNod l at') m ep = w at *
      by_cases hi9 : i < w
      · rw [decide_eq_true hi9, cnd_t, if_pos hi9]
        rcases r_At_r n (at' + 1) i w ha1 ⟨k1, hk1⟩ i0 hi9 (by omega) with p1 | ⟨p1, p2⟩
        · left
          rw [p1]; rfl
        · right
          refine ⟨?_, by omega⟩
          rw [p1]; rfl
      · rw [decide_eq_false hi9, cnd_f, if_neg hi9, r_end l (at' + 1) (by omega) (by omega), resE_some l hk1, bnd_mk, wr_id (x := i - w) (by omega) (by omega), wr_id (x := m - w) (by omega) (by omega)]
        rcases r_At_r n (at' + 1 + k1) (i - w) (m - w) ha2 ⟨k2, hk2⟩ (by omega) (by omega) (by omega) with p1 | ⟨p1, p2⟩
        · left
          rw [p1]; rfl
        · right
          refine ⟨?_, by omega⟩
          rw [p1]; rfl
    · left
      rw [decide_eq_false h9, cnd_f, AtS, if_neg h6, if_neg h7, if_neg h8, if_neg h9, r_atS _ _ _ (hd.2.1 (by omega)) (by omega) (by omega) i0 i1]
      rfl
theorem r_At25 (at' : Nat) (i m : Int) (ha : at' < l.length) (hw : WholeAt (opsN l) at') (i0 : 0 ≤ i) (i1 : i < m) (h : m + dep ((opsN l).drop at') ≤ 1000100) : regimenref25_At (l, (at' : Int), i, m, ep, ()) = some (AtS ep (l.drop at') i m) := by
  unfold regimenref25_At
  refine recP_is (fun n y hy => ?_) (l.length + 1) ?_
  · rcases r_At_r l ep hl hn e0 e1 n at' i m ha hw i0 i1 h with g | ⟨g, _⟩
    · rw [g] at hy; exact (Option.some.inj hy).symm
    · rw [g] at hy; cases hy
  · rcases r_At_r l ep hl hn e0 e1 (l.length + 1) at' i m ha hw i0 i1 h with g | ⟨_, g⟩
    · exact g
    · omega
end
end Go.Proofs.YtggmomkohmcciaaGreat.F
