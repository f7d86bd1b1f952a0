/- Schedules made flat: which have a value, and the program's pieces and value. -/
import Derived.Test.YtggmomkohmcciaaP25BFlatThen
set_option linter.unusedVariables false
set_option linter.unusedSimpArgs false
namespace Go.Proofs.Ytggmomkohmcciaa.F
open Go.VX
open Classical

def FlatOk (l : List NodD) (ep : Int) : Prop := TreeOk l ∧ FlatAll l ∧ 0 ≤ ep ∧ ep ≤ 1000000
def BadF (d : NodD) : Prop := ¬ ((d.1 ≤ 5 → CurveOk (d.1, d.2.1, d.2.2.1, d.2.2.2.2.1, ())) ∧ (d.1 = 7 → 1 ≤ d.2.2.2.2.1 ∧ d.2.2.2.2.1 ≤ 16))
theorem p_fwithin (n lo hi : Int) : flat_within (n, lo, hi, ()) = some (decide (lo ≤ n ∧ n ≤ hi)) := by
  unfold flat_within
  dsimp only
  by_cases h1 : lo ≤ n
  · rw [decide_eq_true (show n ≥ lo from h1), cnd_t, bnd_mk]
    exact congrArg some (decide_eq_decide.2 ⟨fun h => ⟨h1, h⟩, fun h => h.2⟩)
  · rw [decide_eq_false (show ¬ n ≥ lo from h1), cnd_f, bnd_mk, decide_eq_false (fun h => h1 h.1)]
theorem p_bad (d : NodD) (hd : NodeOk d) : flat_bad (d, ()) = some (decide (BadF d)) := by
  have yes : BadF d → some true = some (decide (BadF d)) := fun h => by rw [decide_eq_true h]
  have no : ¬ BadF d → some false = some (decide (BadF d)) := fun h => by rw [decide_eq_false h]
  unfold NodeOk at hd
  unfold flat_bad flat_of
  dsimp only
  rw [p_fwithin]
  simp only [bnd_mk, p_curve]
  by_cases h6 : d.1 = 6
  · rw [decide_eq_true h6]; exact no (fun h => h ⟨fun _ => by omega, fun _ => by omega⟩)
  rw [decide_eq_false h6]
  by_cases h8 : d.1 = 8
  · rw [decide_eq_true h8]; exact no (fun h => h ⟨fun _ => by omega, fun _ => by omega⟩)
  rw [decide_eq_false h8]
  by_cases h9 : d.1 = 9
  · rw [decide_eq_true h9]; exact no (fun h => h ⟨fun _ => by omega, fun _ => by omega⟩)
  rw [decide_eq_false h9]
  simp only [bnd_mk, cnd_f]
  by_cases h7 : d.1 = 7
  · rw [decide_eq_true h7, cnd_t]
    by_cases hk : 1 ≤ d.2.2.2.2.1 ∧ d.2.2.2.2.1 ≤ 16
    · rw [decide_eq_true hk]; exact no (fun h => h ⟨fun _ => by omega, fun _ => hk⟩)
    · rw [decide_eq_false hk]; exact yes (fun h => hk (h.2 h7))
  · rw [decide_eq_false h7, cnd_f]
    by_cases hc : CurveOk (d.1, d.2.1, d.2.2.1, d.2.2.2.2.1, ())
    · rw [if_pos hc]; exact no (fun h => h ⟨fun _ => hc, fun _ => by omega⟩)
    · rw [if_neg hc]; exact yes (fun h => hc (h.1 (by omega)))
theorem mem_nth {l : List NodD} {d : NodD} (h : d ∈ l) : ∃ i, i < l.length ∧ nth zNod l i = d := by
  obtain ⟨i, hi, he⟩ := List.getElem_of_mem h
  exact ⟨i, hi, by simp [nth, List.getD, hi, he]⟩
theorem flat_all (l : List NodD) (h1 : NodesOk l) : FlatAll l ↔ ∀ i, i < l.length → ¬ BadF (nth zNod l i) := by
  constructor
  · intro h i hi hb
    exact hb (h _ (nth_mem hi)).2
  · intro h d hd
    obtain ⟨i, hi, rfl⟩ := mem_nth hd
    exact ⟨h1 i hi, Classical.byContradiction fun k => h i hi k⟩
theorem p_flatcheck (l : List NodD) (ep : Int) (hl : l.length ≤ 1000000) : flat_check (l, ep, ()) = some (if FlatOk l ep then 0 else 1) := by
  unfold flat_check
  dsimp only
  rw [p_check15 l hl, bnd_mk]
  by_cases ht : TreeOk l
  rotate_left
  · rw [decide_eq_false (fun h => ht ((check_zero l).1 h)), if_neg (fun h => ht h.1)]; rfl
  rw [decide_eq_true ((check_zero l).2 ht), p_fwithin]
  obtain ⟨q, e, hq⟩ := ncontains l BadF (fun a2 => bnd (flat_bad a2) some) (by omega) (fun v hv => by
    obtain ⟨i, hi, rfl⟩ := mem_nth hv
    rw [p_bad _ (ht.2.1 i hi)]; rfl)
  rw [e]
  simp only [bnd_mk, Bool.not_true, Bool.not_false, cnd_t, cnd_f]
  cases q with
  | true =>
    obtain ⟨i, hi, hb⟩ := hq.1 rfl
    rw [if_neg (fun h => (flat_all l ht.2.1).1 h.2.1 i hi hb)]; rfl
  | false =>
    have hF : FlatAll l := (flat_all l ht.2.1).2 fun i hi hb => Bool.false_ne_true (hq.2 ⟨i, hi, hb⟩)
    by_cases he : 0 ≤ ep ∧ ep ≤ 1000000
    · rw [decide_eq_true he, if_pos ⟨ht, hF, he.1, he.2⟩]; rfl
    · rw [decide_eq_false he, if_neg (fun h => he h.2.2)]; rfl
theorem r_flatmay (l : List NodD) (ep : Int) (hl : l.length ≤ 1000000) : regimenref25_May (l, ep, ()) = some (decide (FlatOk l ep)) := by
  have no : ¬ FlatOk l ep → some false = some (decide (FlatOk l ep)) := fun h => by rw [decide_eq_false h]
  unfold regimenref25_May
  dsimp only
  rw [r_check15 l hl, bnd_mk]
  by_cases ht : TreeOk l
  rotate_left
  · rw [decide_eq_false (fun h => ht ((check_zero l).1 h))]; exact no (fun h => ht h.1)
  rw [decide_eq_true ((check_zero l).2 ht)]
  by_cases h1 : ep < 0
  · rw [decide_eq_true h1]; exact no (fun h => by have := h.2.2.1; omega)
  by_cases h2 : ep > 1000000
  · rw [decide_eq_false h1, decide_eq_true h2]; exact no (fun h => by have := h.2.2.2; omega)
  rw [decide_eq_false h1, decide_eq_false h2]
  simp only [bnd_mk, Bool.not_true, Bool.not_false, cnd_t, cnd_f]
  rw [all_as (∀ i, i < l.length → ¬ BadF (nth zNod l i)) l.length (fun i => ¬ BadF (nth zNod l i)) _ (.inr false) (.inl ()) Iff.rfl ?_ ?_]
  · rw [bndS_ite]
    by_cases hb : ∀ i, i < l.length → ¬ BadF (nth zNod l i)
    · rw [if_pos hb, decide_eq_true ⟨ht, (flat_all l ht.2.1).2 hb, by omega, by omega⟩]
    · rw [if_neg hb]; exact no (fun h => hb ((flat_all l ht.2.1).1 h.2.1))
  · intro i hi _
    dsimp only
    rw [lt_true hi, cnd_t, ati_d zNod hi, wr_succ hi (by omega)]
    have hd := ht.2.1 i hi
    generalize nth zNod l i = d at *
    simp only [bnd_mk, r_curve]
    by_cases h5 : d.1 ≤ 5
    · rw [decide_eq_true h5, decide_eq_false (by omega : ¬ d.1 = 7)]
      by_cases hc : CurveOk (d.1, d.2.1, d.2.2.1, d.2.2.2.2.1, ())
      · rw [decide_eq_true hc, if_pos (fun h => h ⟨fun _ => hc, fun _ => by omega⟩)]; rfl
      · rw [decide_eq_false hc, if_neg (fun h => h (fun k => hc (k.1 h5)))]; rfl
    · rw [decide_eq_false h5]
      by_cases h7 : d.1 = 7
      · rw [decide_eq_true h7]
        by_cases k1 : d.2.2.2.2.1 < 1
        · rw [decide_eq_true k1, if_neg (fun h => h (fun k => by have := k.2 h7; omega))]; rfl
        · by_cases k2 : d.2.2.2.2.1 > 16
          · rw [decide_eq_false k1, decide_eq_true k2, if_neg (fun h => h (fun k => by have := k.2 h7; omega))]; rfl
          · rw [decide_eq_false k1, decide_eq_false k2, if_pos (fun h => h ⟨fun _ => by omega, fun _ => by omega⟩)]; rfl
      · rw [decide_eq_false h7, if_pos (fun h => h ⟨fun _ => by omega, fun _ => by omega⟩)]; rfl
  · intro _
    dsimp only
    rw [lt_false]; rfl
theorem p_Of (l : List NodD) (f t ep : Int) (h : FlatOk l ep) (f0 : 0 ≤ f) (ft : f < t) (t1 : t ≤ 1000000) : ∃ P, flat_Of (l, (f, t, ()), ep, ()) = some (P, 0, ()) ∧ GoodM l ep 0 f t P := by
  have hl := h.1.1.2
  have h0 := walk_pos _ _ _ h.1.1.1
  obtain ⟨P, e, g⟩ := make_ok l ep (by omega) h.2.1 h.2.2.1 h.2.2.2 0 f t h0 (whole_at l h.1.1.1 0 h0) f0 ft (by rw [List.drop_zero]; have := h.1.2.2; omega)
  unfold flat_Of
  dsimp only
  rw [p_flatcheck l ep (by omega), if_pos h, decide_eq_false (by omega : ¬ f < 0), decide_eq_false (by omega : ¬ f ≥ t), decide_eq_false (by omega : ¬ t > 1000000)]
  simp only [bnd_mk, decide_true, Bool.not_true, Bool.not_false, cnd_t, cnd_f]
  rw [show flat_maker_make (((), 0, (f, t, ()), ()), ((l, ep, ()), ())) = some P from e]
  exact ⟨P, rfl, g⟩
theorem p_Of_no (l : List NodD) (f t ep : Int) (hl : l.length ≤ 1000000) (h : ¬ (FlatOk l ep ∧ 0 ≤ f ∧ f < t ∧ t ≤ 1000000)) : flat_Of (l, (f, t, ()), ep, ()) = some ([], 1, ()) := by
  unfold flat_Of
  dsimp only
  rw [p_flatcheck l ep hl]
  by_cases hk : FlatOk l ep
  rotate_left
  · rw [if_neg hk]; rfl
  rw [if_pos hk]
  by_cases h1 : f < 0
  · rw [decide_eq_true h1]; rfl
  by_cases h2 : f ≥ t
  · rw [decide_eq_false h1, decide_eq_true h2]; rfl
  by_cases h3 : t > 1000000
  · rw [decide_eq_false h1, decide_eq_false h2, decide_eq_true h3]; rfl
  exact (h ⟨hk, by omega, by omega, by omega⟩).elim
theorem good_len (l : List NodD) (ep : Int) (at' : Nat) (f t : Int) (P : List SegD) (h : GoodM l ep at' f t P) (f0 : 0 ≤ f) (ft : f < t) (t1 : t ≤ 1000000) : 0 < P.length ∧ P.length ≤ 1048576 := by
  have h1 := chain_le P _ _ _ h.1
  refine ⟨?_, by omega⟩
  cases P with
  | nil => have : f = t := h.1; omega
  | cons s r => simp
theorem p_At (l : List NodD) (i n ep : Int) (h : FlatOk l ep) (i0 : 0 ≤ i) (i1 : i < n) (n1 : n ≤ 1000000) : flat_At (l, i, n, ep, ()) = some (AtS ep l i n, 0, ()) ∧ 0 ≤ AtS ep l i n ∧ AtS ep l i n ≤ 4503599627370496 := by
  obtain ⟨P, e, g⟩ := p_Of l 0 n ep h (by omega) (by omega) n1
  have hP := good_len l ep 0 0 n P g (by omega) (by omega) n1
  have hv := (chain_at P 0 n _ g.1 hP.2 hP.1 i).1 i0 i1
  rw [List.drop_zero, Int.sub_zero, Int.sub_zero] at hv
  refine ⟨?_, hv.2⟩
  unfold flat_At
  dsimp only
  rw [p_fwithin, decide_eq_true (by omega : 1 ≤ n ∧ n ≤ 1000000), wr_id (x := n - 1) (by omega) (by omega), p_fwithin, decide_eq_true (by omega : 0 ≤ i ∧ i ≤ n - 1), e]
  simp only [bnd_mk, decide_true, Bool.not_true, Bool.not_false, cnd_t, cnd_f]
  rw [hv.1]
  rfl
theorem p_At_no (l : List NodD) (i n ep : Int) (hl : l.length ≤ 1000000) (h : ¬ (FlatOk l ep ∧ 0 ≤ i ∧ i < n ∧ n ≤ 1000000)) : flat_At (l, i, n, ep, ()) = some (0, 1, ()) := by
  unfold flat_At
  dsimp only
  rw [p_fwithin]
  by_cases h1 : 1 ≤ n ∧ n ≤ 1000000
  rotate_left
  · rw [decide_eq_false h1]; rfl
  rw [decide_eq_true h1, wr_id (x := n - 1) (by omega) (by omega), p_fwithin]
  by_cases h2 : 0 ≤ i ∧ i ≤ n - 1
  rotate_left
  · rw [decide_eq_false h2]; rfl
  rw [decide_eq_true h2, p_Of_no l 0 n ep hl (fun k => h ⟨k.1, by omega, by omega, by omega⟩)]
  rfl
-- bounds of values
theorem bounds_in (c : CurveD) (lo hi : Int) (h1 : lo ≤ c.2.1 ∧ c.2.1 ≤ hi) (h2 : c.1 ≠ 1 → lo ≤ c.2.2.1 ∧ c.2.2.1 ≤ hi) : lo ≤ (BoundsS c).1 ∧ (BoundsS c).2.1 ≤ hi := by
  unfold BoundsS
  by_cases k : c.1 = 1 ∨ c.2.1 = c.2.2.1
  · rw [if_pos k]; dsimp only; omega
  · rw [if_neg k]
    have := h2 (fun e => k (.inl e))
    split
    · dsimp only; omega
    · dsimp only; omega
theorem curve_lohi (c : CurveD) (i n lo hi : Int) (hc : CurveOk c) (n0 : 1 ≤ n) (i0 : 0 ≤ i) (i1 : i < n) (h1 : lo ≤ c.2.1 ∧ c.2.1 ≤ hi) (h2 : c.1 ≠ 1 → lo ≤ c.2.2.1 ∧ c.2.2.1 ≤ hi) : lo ≤ CurveS c i n ∧ CurveS c i n ≤ hi := by
  have a := bounds_in c lo hi h1 h2
  have b := curveS_in c i n hc n0 i0 i1
  omega
end Go.Proofs.Ytggmomkohmcciaa.F
