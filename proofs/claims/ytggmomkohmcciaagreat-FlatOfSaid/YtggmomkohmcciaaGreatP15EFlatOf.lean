/- Trees as nodes: the least and the greatest number. -/
import Derived.Test.YtggmomkohmcciaaGreatP15DFlatOf
set_option linter.unusedVariables false
set_option linter.unusedSimpArgs false
namespace Go.Proofs.YtggmomkohmcciaaGreat.F
open Go.VX
open Classical

def NodQ (n : NodD) : Prop := (0 ≤ n.2.1 ∧ n.2.1 ≤ 4503599627370496) ∧ (0 ≤ n.2.2.1 ∧ n.2.2.1 ≤ 4503599627370496) ∧ 0 ≤ n.2.2.2.1 ∧ n.2.2.2.1 ≤ 4503599627370496
theorem node_q {d : NodD} (h : NodeOk d) : NodQ d := by
  unfold NodeOk at h
  unfold NodQ
  omega
def endsF (d : NodD) : List Int := if d.1 = 9 then [] else if d.1 = 1 ∨ d.1 = 8 then [d.2.1] else if d.1 = 6 then [d.2.1, d.2.2.1, d.2.2.2.1] else [d.2.1, d.2.2.1]
theorem p_ends (d : NodD) : tree_ends (d, ()) = some (endsF d) := by
  unfold tree_ends endsF
  dsimp only
  by_cases h9 : d.1 = 9
  · rw [decide_eq_true h9, if_pos h9]; rfl
  rw [decide_eq_false h9, if_neg h9, cnd_f]
  by_cases h1 : d.1 = 1
  · rw [decide_eq_true h1, if_pos (.inl h1)]; rfl
  rw [decide_eq_false h1]
  by_cases h8 : d.1 = 8
  · rw [decide_eq_true h8, if_pos (.inr h8)]; rfl
  rw [decide_eq_false h8, if_neg (by omega)]
  by_cases h6 : d.1 = 6
  · rw [decide_eq_true h6, if_pos h6]; rfl
  · rw [decide_eq_false h6, if_neg h6]; rfl
def mn (a : Int) : List Int → Int
  | [] => a
  | x :: r => mn (if x < a then x else a) r
def mx (a : Int) : List Int → Int
  | [] => a
  | x :: r => mx (if x > a then x else a) r
def allE : List NodD → List Int
  | [] => []
  | d :: r => endsF d ++ allE r
theorem mn_app : ∀ (xs ys : List Int) (a : Int), mn a (xs ++ ys) = mn (mn a xs) ys
  | [], _, _ => rfl
  | x :: r, ys, a => mn_app r ys _
theorem mx_app : ∀ (xs ys : List Int) (a : Int), mx a (xs ++ ys) = mx (mx a xs) ys
  | [], _, _ => rfl
  | x :: r, ys, a => mx_app r ys _
theorem inner (xs : List Int) (hx : xs.length ≤ 1000000) (lo hi : Int) : loopP (fun (s7 : Int × Int × Int × Unit) => cnd (decide (s7.2.2.1 < (xs.length : Int))) (bnd (ati xs s7.2.2.1) fun v8 => inlE (minL s7.1 [v8], maxL s7.2.1 [v8], wr .i64 (s7.2.2.1 + 1), ())) (inrE (some (s7.1, s7.2.1, ())))) (lo, hi, 0, ()) = some (mn lo xs, mx hi xs, ()) := by
  obtain ⟨r, e, h⟩ := loop_rule (ρ := Int × Int × Unit) (f := (fun (s7 : Int × Int × Int × Unit) => cnd (decide (s7.2.2.1 < (xs.length : Int))) (bnd (ati xs s7.2.2.1) fun v8 => inlE (minL s7.1 [v8], maxL s7.2.1 [v8], wr .i64 (s7.2.2.1 + 1), ())) (inrE (some (s7.1, s7.2.1, ())))))
    (fun s => ∃ k : Nat, s.2.2.1 = (k : Int) ∧ k ≤ xs.length ∧ mn s.1 (xs.drop k) = mn lo xs ∧ mx s.2.1 (xs.drop k) = mx hi xs) (fun s => xs.length - s.2.2.1.toNat) (fun r => r = (mn lo xs, mx hi xs, ())) (fun s ⟨k, h0, h1, h2, h3⟩ => by
      obtain ⟨a, b, i, _⟩ := s
      dsimp only at h0 h2 h3 ⊢
      subst h0
      by_cases hk : k < xs.length
      · left
        rw [lt_true hk, cnd_t, ati_get hk, bnd_mk, wr_succ hk (by omega)]
        rw [List.drop_eq_getElem_cons hk] at h2 h3
        exact ⟨_, rfl, ⟨k + 1, rfl, hk, h2, h3⟩, by dsimp only; omega⟩
      · right
        have : k = xs.length := by omega
        subst this
        rw [lt_false, cnd_f]
        rw [List.drop_length] at h2 h3
        refine ⟨_, rfl, ?_⟩
        rw [← h2, ← h3]
        rfl) (lo, hi, 0, ()) ⟨0, rfl, by omega, by rw [List.drop_zero], by rw [List.drop_zero]⟩
  rw [e, h]
theorem ends_len (d : NodD) : (endsF d).length ≤ 3 := by
  unfold endsF
  split
  · simp
  · split
    · simp
    · split <;> simp
theorem p_Ends (l : List NodD) (hl : l.length ≤ 1000000) (ht : TreeOk l) : tree_Ends (l, ()) = some (mn 4503599627370496 (allE l), mx 0 (allE l), ()) := by
  unfold tree_Ends
  dsimp only
  rw [p_check15 l hl, (check_zero l).2 ht, bnd_mk, decide_eq_true rfl, Bool.not_true, cnd_f]
  obtain ⟨r, e, h⟩ := loop_rule (ρ := Int × Int × Unit) (f := (fun (s3 : Int × Int × Int × Unit) => cnd (decide (s3.2.2.1 < (l.length : Int))) (bnd (ati l s3.2.2.1) fun v4 => bnd (tree_ends (v4, ())) fun r5 => bnd (loopP (fun (s7 : Int × Int × Int × Unit) => cnd (decide (s7.2.2.1 < (r5.length : Int))) (bnd (ati r5 s7.2.2.1) fun v8 => inlE (minL s7.1 [v8], maxL s7.2.1 [v8], wr .i64 (s7.2.2.1 + 1), ())) (inrE (some (s7.1, s7.2.1, ())))) (s3.1, s3.2.1, 0, ())) fun j6 => inlE (j6.1, j6.2.1, wr .i64 (s3.2.2.1 + 1), ())) (inrE (some (s3.1, s3.2.1, ())))))
    (fun s => ∃ k : Nat, s.2.2.1 = (k : Int) ∧ k ≤ l.length ∧ mn s.1 (allE (l.drop k)) = mn 4503599627370496 (allE l) ∧ mx s.2.1 (allE (l.drop k)) = mx 0 (allE l)) (fun s => l.length - s.2.2.1.toNat) (fun r => r = (mn 4503599627370496 (allE l), mx 0 (allE l), ())) (fun s ⟨k, h0, h1, h2, h3⟩ => by
      obtain ⟨a, b, i, _⟩ := s
      dsimp only at h0 h2 h3 ⊢
      subst h0
      by_cases hk : k < l.length
      · left
        rw [lt_true hk, cnd_t, ati_get hk, bnd_mk, p_ends, bnd_mk, inner _ (by have := ends_len l[k]; omega), bnd_mk, wr_succ hk (by omega)]
        rw [List.drop_eq_getElem_cons hk] at h2 h3
        simp only [allE] at h2 h3
        rw [mn_app] at h2
        rw [mx_app] at h3
        exact ⟨_, rfl, ⟨k + 1, rfl, hk, h2, h3⟩, by dsimp only; omega⟩
      · right
        have : k = l.length := by omega
        subst this
        rw [lt_false, cnd_f]
        rw [List.drop_length] at h2 h3
        refine ⟨_, rfl, ?_⟩
        rw [← h2, ← h3]
        rfl) (4503599627370496, 0, 0, ()) ⟨0, rfl, by omega, by rw [List.drop_zero], by rw [List.drop_zero]⟩
  rw [e, bnd_mk, h]
theorem allE_q : ∀ l : List NodD, (∀ d ∈ l, NodQ d) → ∀ x ∈ allE l, 0 ≤ x ∧ x ≤ 4503599627370496
  | [], _, x, hx => by cases hx
  | d :: r, h, x, hx => by
    simp only [allE] at hx
    rcases List.mem_append.1 hx with hx | hx
    · have hd := h d (List.mem_cons_self ..)
      unfold endsF at hx
      unfold NodQ at hd
      split at hx
      · cases hx
      · split at hx
        · simp only [List.mem_cons, List.not_mem_nil, or_false] at hx; subst hx; omega
        · split at hx
          · simp only [List.mem_cons, List.not_mem_nil, or_false] at hx; rcases hx with rfl | rfl | rfl <;> omega
          · simp only [List.mem_cons, List.not_mem_nil, or_false] at hx; rcases hx with rfl | rfl <;> omega
    · exact allE_q r (fun d hd => h d (List.mem_cons_of_mem _ hd)) x hx
theorem mn_range : ∀ (xs : List Int) (a : Int), 0 ≤ a ∧ a ≤ 4503599627370496 → (∀ x ∈ xs, 0 ≤ x ∧ x ≤ 4503599627370496) → 0 ≤ mn a xs ∧ mn a xs ≤ 4503599627370496
  | [], a, ha, _ => ha
  | x :: r, a, ha, h => by
    simp only [mn]
    refine mn_range r _ ?_ fun y hy => h y (List.mem_cons_of_mem x hy)
    have := h x (List.mem_cons_self ..)
    split <;> omega
theorem mx_range : ∀ (xs : List Int) (a : Int), 0 ≤ a ∧ a ≤ 4503599627370496 → (∀ x ∈ xs, 0 ≤ x ∧ x ≤ 4503599627370496) → 0 ≤ mx a xs ∧ mx a xs ≤ 4503599627370496
  | [], a, ha, _ => ha
  | x :: r, a, ha, h => by
    simp only [mx]
    refine mx_range r _ ?_ fun y hy => h y (List.mem_cons_of_mem x hy)
    have := h x (List.mem_cons_self ..)
    split <;> omega
theorem mn_le : ∀ (xs : List Int) (a : Int), mn a xs ≤ a ∧ ∀ x ∈ xs, mn a xs ≤ x
  | [], a => ⟨Int.le_refl _, fun x h => (by cases h)⟩
  | y :: r, a => by
    simp only [mn]
    by_cases k : y < a
    · have h := mn_le r y
      rw [if_pos k]
      refine ⟨by omega, fun x hx => ?_⟩
      rcases List.mem_cons.1 hx with rfl | hx
      · exact h.1
      · exact h.2 x hx
    · have h := mn_le r a
      rw [if_neg k]
      refine ⟨h.1, fun x hx => ?_⟩
      rcases List.mem_cons.1 hx with rfl | hx
      · have := h.1; omega
      · exact h.2 x hx
theorem mx_ge : ∀ (xs : List Int) (a : Int), a ≤ mx a xs ∧ ∀ x ∈ xs, x ≤ mx a xs
  | [], a => ⟨Int.le_refl _, fun x h => (by cases h)⟩
  | y :: r, a => by
    simp only [mx]
    by_cases k : y > a
    · have h := mx_ge r y
      rw [if_pos k]
      refine ⟨by omega, fun x hx => ?_⟩
      rcases List.mem_cons.1 hx with rfl | hx
      · exact h.1
      · exact h.2 x hx
    · have h := mx_ge r a
      rw [if_neg k]
      refine ⟨h.1, fun x hx => ?_⟩
      rcases List.mem_cons.1 hx with rfl | hx
      · have := h.1; omega
      · exact h.2 x hx
theorem mem_allE : ∀ (l : List NodD) (d : NodD) (x : Int), d ∈ l → x ∈ endsF d → x ∈ allE l
  | e :: r, d, x, hd, hx => by
    simp only [allE]
    rcases List.mem_cons.1 hd with rfl | hd
    · exact List.mem_append.2 (.inl hx)
    · exact List.mem_append.2 (.inr (mem_allE r d x hd hx))
end Go.Proofs.YtggmomkohmcciaaGreat.F
