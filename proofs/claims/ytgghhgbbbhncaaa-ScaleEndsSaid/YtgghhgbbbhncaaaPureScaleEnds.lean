/- The law ScaleEnds, in plain Lean: the least and the greatest number of a tree scaled are its own, scaled. -/
import Derived.Test.YtgghhgbbbhncaaaVx3
import Derived.Test.YtgghhgbbbhncaaaP15DScaleEnds
import Derived.Test.YtgghhgbbbhncaaaPVScaleEnds
set_option linter.unusedVariables false
set_option linter.unusedSimpArgs false
namespace Go.Proofs.Ytgghhgbbbhncaaa.F
open Go.VX
open Classical

def scN (k : Int) (n : NodD) : NodD := (n.1, tm n.2.1 k, tm n.2.2.1 k, tm n.2.2.2.1 k, n.2.2.2.2)
def NodQ (n : NodD) : Prop := (0 ≤ n.2.1 ∧ n.2.1 ≤ 4503599627370496) ∧ (0 ≤ n.2.2.1 ∧ n.2.2.1 ≤ 4503599627370496) ∧ 0 ≤ n.2.2.2.1 ∧ n.2.2.2.1 ≤ 4503599627370496
theorem node_q {d : NodD} (h : NodeOk d) : NodQ d := by
  unfold NodeOk at h
  unfold NodQ
  omega
theorem p_fixtm (x k : Int) (h : 0 ≤ x ∧ x ≤ 4503599627370496) (k0 : 0 ≤ k) (k1 : k ≤ 4294967296) : fix_Mul (x, k, ()) = some (tm x k, 0, ()) := by
  rw [p_fixmul x k (by omega) (by omega) (by omega) (by omega), mul_nn x k h.1 h.2 k0 k1]
theorem p_sctimes (x k : Int) (h : 0 ≤ x ∧ x ≤ 4503599627370496) (k0 : 0 ≤ k) (k1 : k ≤ 4294967296) : scale_times (x, k, ()) = some (tm x k) := by
  unfold scale_times
  dsimp only
  rw [p_fixtm x k h k0 k1]
  rfl
theorem p_scnodes (k : Int) (k0 : 0 ≤ k) (k1 : k ≤ 4294967296) (l : List NodD) (hl : l.length ≤ 1000000) (hr : ∀ j, j < l.length → NodQ (nth zNod l j)) : scale_Nodes (l, k, ()) = some (l.map (scN k), 0, ()) := by
  unfold scale_Nodes slices_Clone_regimen_api_Node_regimen_api_Node
  dsimp only
  rw [decide_eq_false (by omega : ¬ k < 0), decide_eq_false (by omega : ¬ k > 4294967296), clone_ok l _ (by omega)]
  simp only [bnd_mk, cnd_t, cnd_f, Bool.not_false]
  rw [set_loop zNod l (scN k) _ ?_ ?_]
  · rfl
  · intro i o hi ho hn
    have hv := hr i hi
    dsimp only
    rw [lt_true hi, cnd_t, inR_ok hi, bnd_mk, ati_d zNod (by omega), hn, bnd_mk, wr_succ hi (by omega)]
    generalize nth zNod l i = v at *
    rw [p_sctimes _ k hv.1 k0 k1, p_sctimes _ k hv.2.1 k0 k1, p_sctimes _ k hv.2.2 k0 k1]
    simp only [bnd_mk, Int.toNat_natCast]
    rw [ati_d zNod (by omega), bnd_mk, ati_d zNod (by simp; omega), bnd_mk, ati_d zNod (by simp; omega), bnd_mk]
    simp only [List.set_set]
    rw [nth_set zNod _ _ _ _ (by omega), nth_set zNod _ _ _ _ (by omega), if_pos rfl, if_pos rfl, hn]
    rfl
  · intro o ho
    dsimp only
    rw [lt_false]; rfl
theorem out_scnodes (l : List NodD) (k : Int) (h : k < 0 ∨ k > 4294967296) : scale_Nodes (l, k, ()) = some ([], 1, ()) := by
  unfold scale_Nodes
  dsimp only
  by_cases h1 : k < 0
  · rw [decide_eq_true h1]; rfl
  · rw [decide_eq_false h1, decide_eq_true (by omega : k > 4294967296)]; rfl
theorem awake53 : regimenlaw53_awake () = some true := by
  unfold regimenlaw53_awake
  rw [p_scnodes 2147483648 (by omega) (by omega) [(1, 4294967296, 0, 0, 0, (0, 0, ()), ())] (by simp) (fun j hj => by
    have : j = 0 := by simp at hj; exact hj
    subst this
    exact ⟨⟨by decide, by decide⟩, ⟨by decide, by decide⟩, by decide, by decide⟩), out_scnodes [] (-1) (by omega)]
  rfl
def endsF (d : NodD) : List Int := if d.1 = 9 then [] else if d.1 = 1 ∨ d.1 = 8 then [d.2.1] else if d.1 = 6 then [d.2.1, d.2.2.1, d.2.2.2.1] else [d.2.1, d.2.2.1]
theorem p_ends (d : NodD) : tree_ends (d, ()) = some (endsF d) := by
  unfold tree_ends endsF
  dsimp only
  by_cases h9 : d.1 = 9
  · rw [decide_eq_true h9, if_pos h9]; rfl
  rw [decide_eq_false h9, if_neg h9, cnd_f]
  by_cases h1 : d.1 = 1
  · rw [decide_eq_true h1, if_pos (.inl h1)]; rfl
  rw [decide_eq_false h1]
  by_cases h8 : d.1 = 8
  · rw [decide_eq_true h8, if_pos (.inr h8)]; rfl
  rw [decide_eq_false h8, if_neg (by omega)]
  by_cases h6 : d.1 = 6
  · rw [decide_eq_true h6, if_pos h6]; rfl
  · rw [decide_eq_false h6, if_neg h6]; rfl
def mn (a : Int) : List Int → Int
  | [] => a
  | x :: r => mn (if x < a then x else a) r
def mx (a : Int) : List Int → Int
  | [] => a
  | x :: r => mx (if x > a then x else a) r
def allE : List NodD → List Int
  | [] => []
  | d :: r => endsF d ++ allE r
theorem mn_app : ∀ (xs ys : List Int) (a : Int), mn a (xs ++ ys) = mn (mn a xs) ys
  | [], _, _ => rfl
  | x :: r, ys, a => mn_app r ys _
theorem mx_app : ∀ (xs ys : List Int) (a : Int), mx a (xs ++ ys) = mx (mx a xs) ys
  | [], _, _ => rfl
  | x :: r, ys, a => mx_app r ys _
theorem inner (xs : List Int) (hx : xs.length ≤ 1000000) (lo hi : Int) : loopP (fun (s7 : Int × Int × Int × Unit) => cnd (decide (s7.2.2.1 < (xs.length : Int))) (bnd (ati xs s7.2.2.1) fun v8 => inlE (minL s7.1 [v8], maxL s7.2.1 [v8], wr .i64 (s7.2.2.1 + 1), ())) (inrE (some (s7.1, s7.2.1, ())))) (lo, hi, 0, ()) = some (mn lo xs, mx hi xs, ()) := by
  obtain ⟨r, e, h⟩ := loop_rule (ρ := Int × Int × Unit) (f := (fun (s7 : Int × Int × Int × Unit) => cnd (decide (s7.2.2.1 < (xs.length : Int))) (bnd (ati xs s7.2.2.1) fun v8 => inlE (minL s7.1 [v8], maxL s7.2.1 [v8], wr .i64 (s7.2.2.1 + 1), ())) (inrE (some (s7.1, s7.2.1, ())))))
    (fun s => ∃ k : Nat, s.2.2.1 = (k : Int) ∧ k ≤ xs.length ∧ mn s.1 (xs.drop k) = mn lo xs ∧ mx s.2.1 (xs.drop k) = mx hi xs) (fun s => xs.length - s.2.2.1.toNat) (fun r => r = (mn lo xs, mx hi xs, ())) (fun s ⟨k, h0, h1, h2, h3⟩ => by
      obtain ⟨a, b, i, _⟩ := s
      dsimp only at h0 h2 h3 ⊢
      subst h0
      by_cases hk : k < xs.length
      · left
        rw [lt_true hk, cnd_t, ati_get hk, bnd_mk, wr_succ hk (by omega)]
        rw [List.drop_eq_getElem_cons hk] at h2 h3
        exact ⟨_, rfl, ⟨k + 1, rfl, hk, h2, h3⟩, by dsimp only; omega⟩
      · right
        have : k = xs.length := by omega
        subst this
        rw [lt_false, cnd_f]
        rw [List.drop_length] at h2 h3
        refine ⟨_, rfl, ?_⟩
        rw [← h2, ← h3]
        rfl) (lo, hi, 0, ()) ⟨0, rfl, by omega, by rw [List.drop_zero], by rw [List.drop_zero]⟩
  rw [e, h]
theorem ends_len (d : NodD) : (endsF d).length ≤ 3 := by
  unfold endsF
  split
  · simp
  · split
    · simp
    · split <;> simp
theorem p_Ends (l : List NodD) (hl : l.length ≤ 1000000) (ht : TreeOk l) : tree_Ends (l, ()) = some (mn 4503599627370496 (allE l), mx 0 (allE l), ()) := by
  unfold tree_Ends
  dsimp only
  rw [p_check15 l hl, (check_zero l).2 ht, bnd_mk, decide_eq_true rfl, Bool.not_true, cnd_f]
  obtain ⟨r, e, h⟩ := loop_rule (ρ := Int × Int × Unit) (f := (fun (s3 : Int × Int × Int × Unit) => cnd (decide (s3.2.2.1 < (l.length : Int))) (bnd (ati l s3.2.2.1) fun v4 => bnd (tree_ends (v4, ())) fun r5 => bnd (loopP (fun (s7 : Int × Int × Int × Unit) => cnd (decide (s7.2.2.1 < (r5.length : Int))) (bnd (ati r5 s7.2.2.1) fun v8 => inlE (minL s7.1 [v8], maxL s7.2.1 [v8], wr .i64 (s7.2.2.1 + 1), ())) (inrE (some (s7.1, s7.2.1, ())))) (s3.1, s3.2.1, 0, ())) fun j6 => inlE (j6.1, j6.2.1, wr .i64 (s3.2.2.1 + 1), ())) (inrE (some (s3.1, s3.2.1, ())))))
    (fun s => ∃ k : Nat, s.2.2.1 = (k : Int) ∧ k ≤ l.length ∧ mn s.1 (allE (l.drop k)) = mn 4503599627370496 (allE l) ∧ mx s.2.1 (allE (l.drop k)) = mx 0 (allE l)) (fun s => l.length - s.2.2.1.toNat) (fun r => r = (mn 4503599627370496 (allE l), mx 0 (allE l), ())) (fun s ⟨k, h0, h1, h2, h3⟩ => by
      obtain ⟨a, b, i, _⟩ := s
      dsimp only at h0 h2 h3 ⊢
      subst h0
      by_cases hk : k < l.length
      · left
        rw [lt_true hk, cnd_t, ati_get hk, bnd_mk, p_ends, bnd_mk, inner _ (by have := ends_len l[k]; omega), bnd_mk, wr_succ hk (by omega)]
        rw [List.drop_eq_getElem_cons hk] at h2 h3
        simp only [allE] at h2 h3
        rw [mn_app] at h2
        rw [mx_app] at h3
        exact ⟨_, rfl, ⟨k + 1, rfl, hk, h2, h3⟩, by dsimp only; omega⟩
      · right
        have : k = l.length := by omega
        subst this
        rw [lt_false, cnd_f]
        rw [List.drop_length] at h2 h3
        refine ⟨_, rfl, ?_⟩
        rw [← h2, ← h3]
        rfl) (4503599627370496, 0, 0, ()) ⟨0, rfl, by omega, by rw [List.drop_zero], by rw [List.drop_zero]⟩
  rw [e, bnd_mk, h]
-- scaled
theorem ops_sc (k : Int) (l : List NodD) : opsN (l.map (scN k)) = opsN l := by
  unfold opsN
  rw [List.map_map]
  rfl
theorem tm_nil (k : Int) : tm 0 k = 0 := by unfold tm; rw [Int.zero_mul]; rfl
theorem node_sc (k : Int) (k0 : 0 ≤ k) (k1 : k ≤ 4294967296) (d : NodD) (h : NodeOk d) : NodeOk (scN k d) := by
  have hq := node_q h
  have t1 := tm_le hq.1.1 k0 k1
  have t2 := tm_le hq.2.1.1 k0 k1
  have t3 := tm_le hq.2.2.1 k0 k1
  unfold NodQ at hq
  unfold NodeOk at h ⊢
  have z1 : d.2.1 = 0 → tm d.2.1 k = 0 := fun e => by rw [e, tm_nil]
  have z2 : d.2.2.1 = 0 → tm d.2.2.1 k = 0 := fun e => by rw [e, tm_nil]
  have z3 : d.2.2.2.1 = 0 → tm d.2.2.2.1 k = 0 := fun e => by rw [e, tm_nil]
  unfold scN
  dsimp only
  generalize tm d.2.1 k = A at *
  generalize tm d.2.2.1 k = B at *
  generalize tm d.2.2.2.1 k = C at *
  obtain ⟨h1, h2, h3, h4, h5, h6, h7, h8, h9, g1, g2, g3, g4⟩ := h
  refine ⟨h1, h2, by omega, by omega, by omega, by omega, by omega, by omega, h9, fun e => z1 (g1 e), fun e => z2 (g2 e), fun e => z3 (g3 e), g4⟩
theorem tree_sc (k : Int) (k0 : 0 ≤ k) (k1 : k ≤ 4294967296) (l : List NodD) (h : TreeOk l) : TreeOk (l.map (scN k)) := by
  unfold TreeOk WholeL NodesOk at *
  rw [ops_sc, List.length_map]
  exact ⟨h.1, fun i hi => by rw [nth_map zNod zNod (scN k) hi]; exact node_sc k k0 k1 _ (h.2.1 i hi), h.2.2⟩
theorem ends_sc (k : Int) (d : NodD) : endsF (scN k d) = (endsF d).map fun x => tm x k := by
  unfold endsF scN
  dsimp only
  split
  · rfl
  · split
    · rfl
    · split <;> rfl
theorem allE_sc (k : Int) : ∀ l : List NodD, allE (l.map (scN k)) = (allE l).map fun x => tm x k
  | [] => rfl
  | d :: r => by
    rw [List.map_cons]
    simp only [allE]
    rw [ends_sc, allE_sc k r, List.map_append]
theorem allE_q : ∀ l : List NodD, (∀ d ∈ l, NodQ d) → ∀ x ∈ allE l, 0 ≤ x ∧ x ≤ 4503599627370496
  | [], _, x, hx => by cases hx
  | d :: r, h, x, hx => by
    simp only [allE] at hx
    rcases List.mem_append.1 hx with hx | hx
    · have hd := h d (List.mem_cons_self ..)
      unfold endsF at hx
      unfold NodQ at hd
      split at hx
      · cases hx
      · split at hx
        · simp only [List.mem_cons, List.not_mem_nil, or_false] at hx; subst hx; omega
        · split at hx
          · simp only [List.mem_cons, List.not_mem_nil, or_false] at hx; rcases hx with rfl | rfl | rfl <;> omega
          · simp only [List.mem_cons, List.not_mem_nil, or_false] at hx; rcases hx with rfl | rfl <;> omega
    · exact allE_q r (fun d hd => h d (List.mem_cons_of_mem _ hd)) x hx
theorem tm_up (k : Int) (k0 : 0 ≤ k) {x y : Int} (hx : 0 ≤ x) (h : x ≤ y) : tm x k ≤ tm y k := tm_mono hx k0 h (Int.le_refl k)
theorem mx_sc (k : Int) (k0 : 0 ≤ k) : ∀ (xs : List Int) (a : Int), 0 ≤ a → (∀ x ∈ xs, 0 ≤ x ∧ x ≤ 4503599627370496) → mx (tm a k) (xs.map fun x => tm x k) = tm (mx a xs) k
  | [], _, _, _ => rfl
  | x :: r, a, ha, h => by
    rw [List.map_cons]
    simp only [mx]
    have hx := h x (List.mem_cons_self ..)
    have hr := fun y hy => h y (List.mem_cons_of_mem x hy)
    by_cases hxa : x > a
    · have h1 := tm_up k k0 ha (by omega : a ≤ x)
      rw [if_pos hxa, ← mx_sc k k0 r x hx.1 hr]
      by_cases h2 : tm x k > tm a k
      · rw [if_pos h2]
      · rw [if_neg h2, show tm a k = tm x k by omega]
    · have h1 := tm_up k k0 hx.1 (by omega : x ≤ a)
      rw [if_neg hxa, if_neg (by omega), mx_sc k k0 r a ha hr]
theorem mn_sc (k : Int) (k0 : 0 ≤ k) : ∀ (xs : List Int) (a : Int), 0 ≤ a → (∀ x ∈ xs, 0 ≤ x ∧ x ≤ 4503599627370496) → mn (tm a k) (xs.map fun x => tm x k) = tm (mn a xs) k
  | [], _, _, _ => rfl
  | x :: r, a, ha, h => by
    rw [List.map_cons]
    simp only [mn]
    have hx := h x (List.mem_cons_self ..)
    have hr := fun y hy => h y (List.mem_cons_of_mem x hy)
    by_cases hxa : x < a
    · have h1 := tm_up k k0 hx.1 (by omega : x ≤ a)
      rw [if_pos hxa, ← mn_sc k k0 r x hx.1 hr]
      by_cases h2 : tm x k < tm a k
      · rw [if_pos h2]
      · rw [if_neg h2, show tm a k = tm x k by omega]
    · have h1 := tm_up k k0 ha (by omega : a ≤ x)
      rw [if_neg hxa, if_neg (by omega), mn_sc k k0 r a ha hr]
theorem mn_first (k : Int) (k0 : 0 ≤ k) (k1 : k ≤ 4294967296) (xs : List Int) (hne : xs ≠ []) (h : ∀ x ∈ xs, 0 ≤ x ∧ x ≤ 4503599627370496) : mn 4503599627370496 (xs.map fun x => tm x k) = tm (mn 4503599627370496 xs) k := by
  cases xs with
  | nil => exact (hne rfl).elim
  | cons x r =>
    have hx := h x (List.mem_cons_self ..)
    have ht := tm_le hx.1 k0 k1
    rw [List.map_cons]
    simp only [mn]
    rw [show (if tm x k < 4503599627370496 then tm x k else 4503599627370496) = tm x k by split <;> omega, show (if x < 4503599627370496 then x else 4503599627370496) = x by split <;> omega]
    exact mn_sc k k0 r x hx.1 fun y hy => h y (List.mem_cons_of_mem x hy)
/-- A walk that ends meets a node that is no two. -/
theorem walk_leaf : ∀ (l : List Int) (c k : Nat), walk l (c + 1) = some k → ∃ o ∈ l, o ≠ 9
  | [], c, k, h => by simp [walk] at h
  | o :: r, c, k, h => by
    by_cases ho : o = 9
    · subst ho
      simp only [walk] at h
      rw [show arN 9 = some 2 from rfl] at h
      dsimp only at h
      cases hw : walk r (c + 2) with
      | none => rw [hw] at h; cases h
      | some j =>
        obtain ⟨o, hm, hn⟩ := walk_leaf r (c + 1) j hw
        exact ⟨o, List.mem_cons_of_mem _ hm, hn⟩
    · exact ⟨o, List.mem_cons_self .., ho⟩
theorem allE_ne : ∀ l : List NodD, (∃ o ∈ opsN l, o ≠ 9) → allE l ≠ []
  | [], h => by obtain ⟨o, ho, _⟩ := h; cases ho
  | d :: r, h => by
    simp only [allE]
    by_cases hd : d.1 = 9
    · obtain ⟨o, ho, hn⟩ := h
      unfold opsN at ho
      rw [List.map_cons] at ho
      rcases List.mem_cons.1 ho with e | ho
      · exact (hn (e.trans hd)).elim
      · have := allE_ne r ⟨o, ho, hn⟩
        intro e
        exact this (List.append_eq_nil_iff.1 e).2
    · intro e
      have := (List.append_eq_nil_iff.1 e).1
      unfold endsF at this
      rw [if_neg hd] at this
      split at this
      · cases this
      · split at this <;> cases this
theorem mn_range : ∀ (xs : List Int) (a : Int), 0 ≤ a ∧ a ≤ 4503599627370496 → (∀ x ∈ xs, 0 ≤ x ∧ x ≤ 4503599627370496) → 0 ≤ mn a xs ∧ mn a xs ≤ 4503599627370496
  | [], a, ha, _ => ha
  | x :: r, a, ha, h => by
    simp only [mn]
    refine mn_range r _ ?_ fun y hy => h y (List.mem_cons_of_mem x hy)
    have := h x (List.mem_cons_self ..)
    split <;> omega
theorem mx_range : ∀ (xs : List Int) (a : Int), 0 ≤ a ∧ a ≤ 4503599627370496 → (∀ x ∈ xs, 0 ≤ x ∧ x ≤ 4503599627370496) → 0 ≤ mx a xs ∧ mx a xs ≤ 4503599627370496
  | [], a, ha, _ => ha
  | x :: r, a, ha, h => by
    simp only [mx]
    refine mx_range r _ ?_ fun y hy => h y (List.mem_cons_of_mem x hy)
    have := h x (List.mem_cons_self ..)
    split <;> omega
theorem pure_ScaleEnds (x : Ty.D T34) (h : Ty.wf T34 x) : regimenlaw53_ScaleEnds x = some true := by
  obtain ⟨l, k, _⟩ := x
  change List NodD at l
  change Int at k
  unfold regimenlaw53_ScaleEnds
  dsimp only
  rw [awake53]
  by_cases k1 : (l.length : Int) > 64
  · rw [decide_eq_true k1]; rfl
  rw [decide_eq_false k1, r_check15 l (by omega), bnd_mk]
  by_cases k2 : checkF l = 0
  rotate_left
  · rw [decide_eq_false k2]; rfl
  rw [decide_eq_true k2]
  have ht := (check_zero l).1 k2
  by_cases k3 : k < 0
  · rw [decide_eq_true k3]; rfl
  rw [decide_eq_false k3]
  by_cases k4 : k > 4294967296
  · rw [decide_eq_true k4]; rfl
  rw [decide_eq_false k4]
  simp only [bnd_mk, Bool.not_true, Bool.not_false, cnd_t, cnd_f]
  have hq : ∀ j, j < l.length → NodQ (nth zNod l j) := fun j hj => node_q (ht.2.1 j hj)
  have hq2 : ∀ d ∈ l, NodQ d := fun d hd => by
    obtain ⟨i, hi, he⟩ := List.getElem_of_mem hd
    have := hq i hi
    have e : nth zNod l i = l[i] := by simp [nth, List.getD, hi]
    rw [e, he] at this
    exact this
  have hx := allE_q l hq2
  have r1 := mn_range (allE l) 4503599627370496 (by omega) hx
  have r2 := mx_range (allE l) 0 (by omega) hx
  rw [p_scnodes k (by omega) (by omega) l (by omega) hq]
  simp only [bnd_mk]
  rw [p_Ends l (by omega) ht, p_Ends (l.map (scN k)) (by rw [List.length_map]; omega) (tree_sc k (by omega) (by omega) l ht)]
  simp only [bnd_mk]
  rw [p_fixtm _ k r1 (by omega) (by omega), p_fixtm _ k r2 (by omega) (by omega), allE_sc, mn_first k (by omega) (by omega) (allE l) (allE_ne l (walk_leaf _ 0 _ ht.1.1)) hx]
  have hm := mx_sc k (by omega) (allE l) 0 (by omega) hx
  rw [tm_nil] at hm
  rw [hm]
  simp only [bnd_mk, decide_true, cnd_t]
end Go.Proofs.Ytgghhgbbbhncaaa.F
