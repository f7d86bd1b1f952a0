/- Trees as nodes: the program's depth, what a node may be, and what a tree may be. -/
import Derived.Test.YtggmomkohmcciaaP15BFlatThen
set_option linter.unusedVariables false
set_option linter.unusedSimpArgs false
namespace Go.Proofs.Ytggmomkohmcciaa.F
open Go.VX
open Classical

theorem nth_setj {α : Type} (z : α) (l : List α) (i j : Nat) (v : α) (hi : i < l.length) : nth z (l.set i v) j = if j = i then v else nth z l j := by
  simp only [nth, List.getD, List.getElem?_set]
  by_cases h : j = i
  · subst h
    rw [if_pos rfl, if_pos hi, if_pos rfl]; rfl
  · rw [if_neg (fun e => h e.symm), if_neg h]
theorem nth_zero (n j : Nat) : nth (0 : Int) (List.replicate n 0) j = 0 := by
  simp only [nth, List.getD, List.getElem?_replicate]
  split <;> rfl
def maxD (l : List NodD) : List Nat → Nat
  | [] => 0
  | b :: r => max (dep ((opsN l).drop b)) (maxD l r)
theorem dep_bel (l : List NodD) (i : Nat) (hi : i < l.length) (hw : WholeAt (opsN l) i) : dep ((opsN l).drop i) = maxD l (belN (opsN l) i) + 1 ∧ ∀ b ∈ belN (opsN l) i, i < b ∧ b < l.length := by
  obtain ⟨k, hk⟩ := hw
  have inl : ∀ {j k1 : Nat}, walk ((opsN l).drop j) 1 = some k1 → j < l.length := fun {j k1} h => by
    by_cases hj : j < l.length
    · exact hj
    · rw [ops_end l (by omega)] at h; cases h
  rcases whole_kids l hi hk with ha | ⟨ha, k1, h1⟩ | ⟨ha, k1, k2, h1, h2, h3⟩
  · rw [(bel_0 l hi ha).1, (bel_0 l hi ha).2]
    exact ⟨rfl, fun b hb => by cases hb⟩
  · rw [(bel_1 l hi ha).1, (bel_1 l hi ha).2]
    refine ⟨by simp [maxD], fun b hb => ?_⟩
    have hb2 : b = i + 1 := by simpa using hb
    have := inl h1
    omega
  · rw [(bel_2 l hi ha h1).1, (bel_2 l hi ha h1).2]
    refine ⟨by simp [maxD], fun b hb => ?_⟩
    have hb2 : b = i + 1 ∨ b = i + 1 + k1 := by simpa using hb
    have := inl h1
    have := inl h2
    omega
theorem kids_loop (l : List NodD) (i : Nat) (hi : i < l.length) (n : Nat) (hn : n = l.length) (bs : List Nat) (hb : ∀ b ∈ bs, i < b ∧ b < l.length) (hbl : bs.length ≤ 1000000) (d : List Int) (hd : d.length = l.length) (h0 : nth 0 d i = 0) (hv : ∀ b, i < b → b < l.length → nth 0 d b = ((dep ((opsN l).drop b) : Nat) : Int)) :
    ∃ d', loopP (fun (s7 : Int × List (Int) × Unit) => cnd (decide (s7.1 < ((bs.map fun j : Nat => (j : Int)).length : Int))) (bnd (ati (bs.map fun j : Nat => (j : Int)) s7.1) fun v8 => bnd (inR n (i : Int)) fun v9 => bnd (ati s7.2.1 v9) fun v10 => bnd (inR n v8) fun v11 => bnd (ati s7.2.1 v11) fun v12 => bnd (inR n (i : Int)) fun v13 => bnd (ati s7.2.1 v13) fun v14 => inlE (wr .i64 (s7.1 + 1), List.set s7.2.1 (Int.toNat v13) (maxL v10 [v12]), ())) (inrE (some (s7.2.1, ())))) (0, d, ()) = some (d', ()) ∧ d'.length = l.length ∧ nth 0 d' i = ((maxD l bs : Nat) : Int) ∧ ∀ j, j ≠ i → nth 0 d' j = nth 0 d j := by
  subst hn
  obtain ⟨r, e, h⟩ := loop_rule (ρ := List Int × Unit) (f := (fun (s7 : Int × List (Int) × Unit) => cnd (decide (s7.1 < ((bs.map fun j : Nat => (j : Int)).length : Int))) (bnd (ati (bs.map fun j : Nat => (j : Int)) s7.1) fun v8 => bnd (inR l.length (i : Int)) fun v9 => bnd (ati s7.2.1 v9) fun v10 => bnd (inR l.length v8) fun v11 => bnd (ati s7.2.1 v11) fun v12 => bnd (inR l.length (i : Int)) fun v13 => bnd (ati s7.2.1 v13) fun v14 => inlE (wr .i64 (s7.1 + 1), List.set s7.2.1 (Int.toNat v13) (maxL v10 [v12]), ())) (inrE (some (s7.2.1, ())))))
    (fun s => ∃ (k : Nat) (d' : List Int), s = ((k : Int), d', ()) ∧ k ≤ bs.length ∧ d'.length = l.length ∧ max (nth 0 d' i) ((maxD l (bs.drop k) : Nat) : Int) = ((maxD l bs : Nat) : Int) ∧ 0 ≤ nth 0 d' i ∧ ∀ j, j ≠ i → nth 0 d' j = nth 0 d j) (fun s => bs.length - s.1.toNat)
    (fun r => ∃ d', r = (d', ()) ∧ d'.length = l.length ∧ nth 0 d' i = ((maxD l bs : Nat) : Int) ∧ ∀ j, j ≠ i → nth 0 d' j = nth 0 d j) (fun s ⟨k, d', hs, hk, hl', hm, hp, ho⟩ => by
      subst hs
      dsimp only
      rw [List.length_map]
      by_cases hlt : k < bs.length
      · left
        have hat : ati (bs.map fun j : Nat => (j : Int)) (k : Int) = some ((bs[k] : Nat) : Int) := by
          rw [ati_get (by rw [List.length_map]; exact hlt), List.getElem_map]
        have hbk := hb bs[k] (List.getElem_mem hlt)
        rw [lt_true hlt, cnd_t, hat, bnd_mk, inR_ok hi, bnd_mk, ati_d 0 (by omega : i < d'.length), bnd_mk, inR_ok hbk.2, bnd_mk, ati_d 0 (by omega : bs[k] < d'.length), bnd_mk, bnd_mk, ati_d 0 (by omega : i < d'.length), bnd_mk, wr_succ hlt (by omega), Int.toNat_natCast]
        refine ⟨_, rfl, ⟨k + 1, _, rfl, by omega, by rw [List.length_set]; exact hl', ?_, ?_, fun j hj => ?_⟩, by dsimp only; omega⟩
        · rw [nth_setj _ _ _ _ _ (by omega), if_pos rfl, ← hm, List.drop_eq_getElem_cons hlt, ho bs[k] (by omega), hv _ hbk.1 hbk.2]
          simp only [maxD, maxL]
          split <;> omega
        · rw [nth_setj _ _ _ _ _ (by omega), if_pos rfl]
          simp only [maxL]
          split <;> omega
        · rw [nth_setj _ _ _ _ _ (by omega), if_neg hj]
          exact ho j hj
      · right
        have : k = bs.length := by omega
        subst this
        rw [lt_false, cnd_f]
        refine ⟨_, rfl, d', rfl, hl', ?_, ho⟩
        rw [List.drop_length] at hm
        simp only [maxD] at hm
        omega) (0, d, ()) ⟨0, d, rfl, by omega, hd, by rw [h0, List.drop_zero]; omega, by omega, fun j _ => rfl⟩
  obtain ⟨d', rfl, h⟩ := h
  exact ⟨d', e, h⟩
theorem bel_len (l : List Int) (i : Nat) : (belN l i).length ≤ 2 := by
  unfold belN
  split
  · simp
  · split <;> simp
theorem p_depth (l : List NodD) (hw : WholeL l) : tree_Depth (l, ()) = some ((dep (opsN l) : Nat) : Int) := by
  have hl0 := walk_pos _ _ _ hw.1
  have hl := hw.2
  unfold tree_Depth
  dsimp only
  rw [p_whole l (by omega), decide_eq_true hw, bnd_mk, Bool.not_true, cnd_f]
  unfold mkN
  rw [if_pos (by omega), bnd_mk, Int.toNat_natCast, wr_id (x := (l.length : Int) - 1) (by omega) (by omega)]
  obtain ⟨r, e, h⟩ := loop_rule (ρ := List Int × Unit) (f := (fun (s4 : Int × List (Int) × Unit) => cnd (decide (s4.1 ≥ 0)) (bnd (tree_Below (l, s4.1, ())) fun r5 => bnd (loopP (fun (s7 : Int × List (Int) × Unit) => cnd (decide (s7.1 < (r5.length : Int))) (bnd (ati r5 s7.1) fun v8 => bnd (inR (List.replicate l.length (0 : Int)).length s4.1) fun v9 => bnd (ati s7.2.1 v9) fun v10 => bnd (inR (List.replicate l.length (0 : Int)).length v8) fun v11 => bnd (ati s7.2.1 v11) fun v12 => bnd (inR (List.replicate l.length (0 : Int)).length s4.1) fun v13 => bnd (ati s7.2.1 v13) fun v14 => inlE (wr .i64 (s7.1 + 1), List.set s7.2.1 (Int.toNat v13) (maxL v10 [v12]), ())) (inrE (some (s7.2.1, ())))) (0, s4.2.1, ())) fun j6 => bnd (inR (List.replicate l.length (0 : Int)).length s4.1) fun v15 => bnd (ati j6.1 v15) fun v16 => bnd (inR (List.replicate l.length (0 : Int)).length s4.1) fun v17 => bnd (ati j6.1 v17) fun v18 => inlE (wr .i64 (s4.1 - 1), List.set j6.1 (Int.toNat v17) (wr .i64 (v16 + 1)), ())) (inrE (some (s4.2.1, ())))))
    (fun s => -1 ≤ s.1 ∧ s.1 < l.length ∧ s.2.1.length = l.length ∧ ∀ j, j < l.length → nth 0 s.2.1 j = if s.1 < (j : Int) then ((dep ((opsN l).drop j) : Nat) : Int) else 0) (fun s => (s.1 + 1).toNat)
    (fun r => r.1.length = l.length ∧ nth 0 r.1 0 = ((dep (opsN l) : Nat) : Int)) (fun s ⟨i0, i1, i2, i3⟩ => by
      obtain ⟨i, d, _⟩ := s
      dsimp only at i0 i1 i2 i3 ⊢
      by_cases hge : i ≥ 0
      · left
        obtain ⟨k, rfl⟩ : ∃ k : Nat, i = k := ⟨i.toNat, by omega⟩
        have hk : k < l.length := by omega
        have hwk := whole_at l hw.1 k hk
        have hdb := dep_bel l k hk hwk
        rw [decide_eq_true hge, cnd_t, p_below l k (by omega) hk hwk, bnd_mk]
        obtain ⟨d', e1, e2, e3, e4⟩ := kids_loop l k hk (List.replicate l.length (0 : Int)).length (List.length_replicate ..) (belN (opsN l) k) hdb.2 (by have := bel_len (opsN l) k; omega) d i2 (by rw [i3 k hk, if_neg (by omega)]) (fun b hb1 hb2 => by rw [i3 b hb2, if_pos (by omega)])
        rw [e1, bnd_mk, List.length_replicate, inR_ok hk, bnd_mk, ati_d 0 (by omega : k < d'.length), bnd_mk, bnd_mk, ati_d 0 (by omega : k < d'.length), bnd_mk]
        have hda := dep_at l k
        rw [e3, show ((maxD l (belN (opsN l) k) : Nat) : Int) + 1 = ((dep ((opsN l).drop k) : Nat) : Int) by rw [hdb.1]; omega, wr_id (x := ((dep ((opsN l).drop k) : Nat) : Int)) (by omega) (by omega), wr_id (x := (k : Int) - 1) (by omega) (by omega), Int.toNat_natCast]
        refine ⟨_, rfl, ⟨by dsimp only; omega, by dsimp only; omega, by dsimp only; rw [List.length_set]; exact e2, fun j hj => ?_⟩, by dsimp only; omega⟩
        dsimp only
        rw [nth_setj _ _ _ _ _ (by omega)]
        by_cases hjk : j = k
        · subst hjk
          rw [if_pos rfl, if_pos (by omega)]
        · rw [if_neg hjk, e4 j hjk, i3 j hj]
          by_cases hkj : (k : Int) < (j : Int)
          · rw [if_pos hkj, if_pos (by omega)]
          · rw [if_neg hkj, if_neg (by omega)]
      · right
        rw [decide_eq_false hge, cnd_f]
        refine ⟨_, rfl, i2, ?_⟩
        dsimp only
        rw [i3 0 hl0, if_pos (by omega), List.drop_zero]) ((l.length : Int) - 1, List.replicate l.length 0, ()) ⟨by dsimp only; omega, by dsimp only; omega, List.length_replicate .., fun j hj => by
      dsimp only
      rw [if_neg (by omega), nth_zero]⟩
  rw [e, bnd_mk, List.length_replicate, show inR l.length 0 = some 0 from inR_ok hl0, bnd_mk, ati_0 0 (by rw [h.1]; exact hl0), bnd_mk, h.2]
def LenOkN (u n : Int) : Prop := 0 ≤ n ∧ n ≤ 1099511627776 ∧ 0 ≤ u ∧ u ≤ 2 ∧ (u = 2 → n ≤ 100)
def NodeOk (d : NodD) : Prop := 1 ≤ d.1 ∧ d.1 ≤ 9 ∧ 0 ≤ d.2.1 ∧ d.2.1 ≤ 4503599627370496 ∧ 0 ≤ d.2.2.1 ∧ d.2.2.1 ≤ 4503599627370496 ∧ 0 ≤ d.2.2.2.1 ∧ d.2.2.2.1 ≤ 4503599627370496 ∧ 0 ≤ d.2.2.2.2.1 ∧
  (d.1 = 9 → d.2.1 = 0) ∧ (¬ (2 ≤ d.1 ∧ d.1 ≤ 7) → d.2.2.1 = 0) ∧ (d.1 ≠ 6 → d.2.2.2.1 = 0) ∧ (¬ (d.1 = 3 ∨ d.1 = 4 ∨ d.1 = 6 ∨ d.1 = 7) → d.2.2.2.2.1 = 0) ∧ (d.1 < 7 → d.2.2.2.2.2.1.1 = 0 ∧ d.2.2.2.2.2.1.2.1 = 0) ∧
  (d.1 = 3 ∨ d.1 = 7 → d.2.2.2.2.1 ≤ 1099511627776) ∧ (d.1 = 4 → d.2.2.2.2.1 ≤ 4503599627370496) ∧ (d.1 = 6 → d.2.2.2.2.1 ≤ 100) ∧ LenOkN d.2.2.2.2.2.1.1 d.2.2.2.2.2.1.2.1
theorem p_lasts (u n : Int) : tree_lasts ((u, n, ()), ()) = some (decide (LenOkN u n)) := by
  have no : ¬ LenOkN u n → some false = some (decide (LenOkN u n)) := fun h => by rw [decide_eq_false h]
  have yes : LenOkN u n → some true = some (decide (LenOkN u n)) := fun h => by rw [decide_eq_true h]
  unfold tree_lasts length_Check length_within
  dsimp only
  by_cases h3 : u = 3
  · rw [decide_eq_true h3]; exact no (fun h => by unfold LenOkN at h; omega)
  rw [decide_eq_false h3]
  by_cases h0 : u = 0
  · rw [decide_eq_true h0]
    simp only [bnd_mk, Bool.not_false, cnd_t, cnd_f]
    by_cases hn : n ≥ 0
    · by_cases hm : n ≤ 1099511627776
      · rw [decide_eq_true hn, decide_eq_true hm]; exact yes (by unfold LenOkN; omega)
      · rw [decide_eq_true hn, decide_eq_false hm]; exact no (by unfold LenOkN; omega)
    · rw [decide_eq_false hn]; exact no (by unfold LenOkN; omega)
  rw [decide_eq_false h0]
  by_cases h1 : u = 1
  · rw [decide_eq_true h1]
    simp only [bnd_mk, Bool.not_false, cnd_t, cnd_f]
    by_cases hn : n ≥ 0
    · by_cases hm : n ≤ 1099511627776
      · rw [decide_eq_true hn, decide_eq_true hm]; exact yes (by unfold LenOkN; omega)
      · rw [decide_eq_true hn, decide_eq_false hm]; exact no (by unfold LenOkN; omega)
    · rw [decide_eq_false hn]; exact no (by unfold LenOkN; omega)
  rw [decide_eq_false h1]
  by_cases h2 : u = 2
  · rw [decide_eq_true h2]
    simp only [bnd_mk, Bool.not_false, cnd_t, cnd_f]
    by_cases hn : n ≥ 0
    · by_cases hm : n ≤ 100
      · rw [decide_eq_true hn, decide_eq_true hm]; exact yes (by unfold LenOkN; omega)
      · rw [decide_eq_true hn, decide_eq_false hm]; exact no (by unfold LenOkN; omega)
    · rw [decide_eq_false hn]; exact no (by unfold LenOkN; omega)
  · rw [decide_eq_false h2]
    simp only [bnd_mk, Bool.not_false, cnd_t, cnd_f]
    by_cases hn : n ≥ 0
    · rw [decide_eq_true hn, decide_eq_false (by omega : ¬ n ≤ -1)]; exact no (by unfold LenOkN; omega)
    · rw [decide_eq_false hn]; exact no (by unfold LenOkN; omega)
theorem p_number (x : Int) : tree_number (x, ()) = some (decide (0 ≤ x ∧ x ≤ 4503599627370496)) := by
  unfold tree_number
  dsimp only
  by_cases h : x ≥ 0
  · rw [decide_eq_true h, cnd_t, bnd_mk]
    exact congrArg some (decide_eq_decide.2 ⟨fun k => ⟨h, k⟩, fun k => k.2⟩)
  · rw [decide_eq_false h, cnd_f, bnd_mk, decide_eq_false (fun k => h k.1)]
theorem p_count (x : Int) : tree_count (x, ()) = some (decide (0 ≤ x ∧ x ≤ 1099511627776)) := by
  unfold tree_count
  dsimp only
  by_cases h : x ≥ 0
  · rw [decide_eq_true h, cnd_t, bnd_mk]
    exact congrArg some (decide_eq_decide.2 ⟨fun k => ⟨h, k⟩, fun k => k.2⟩)
  · rw [decide_eq_false h, cnd_f, bnd_mk, decide_eq_false (fun k => h k.1)]
abbrev tNod : Ty := .pr (.int .i64) (.pr (.int .i64) (.pr (.int .i64) (.pr (.int .i64) (.pr (.int .i64) (.pr (.pr (.int .i64) (.pr (.int .i64) .unit)) .unit)))))
theorem p_may15 (d : NodD) : tree_may (d, ()) = some (decide (NodeOk d)) := by
  obtain ⟨o, a, b, c, k, ⟨u, n, _⟩, _⟩ := d
  have fin : ∀ (x : Bool) (Q : Prop), (x = true ↔ Q) → some x = some (decide Q) := fun x Q h => by
    congr 1
    rw [Bool.eq_iff_iff, h, decide_eq_true_eq]
  have no : ¬ NodeOk (o, a, b, c, k, (u, n, ()), ()) → some false = some (decide (NodeOk (o, a, b, c, k, (u, n, ()), ()))) := fun h => by rw [decide_eq_false h]
  unfold tree_may
  dsimp only
  rw [p_number, p_number, p_number, p_lasts]
  by_cases h1 : 0 ≤ a ∧ a ≤ 4503599627370496
  rotate_left
  · rw [decide_eq_false h1]; exact no (fun h => by unfold NodeOk at h; dsimp only at h; omega)
  by_cases h2 : 0 ≤ b ∧ b ≤ 4503599627370496
  rotate_left
  · rw [decide_eq_true h1, decide_eq_false h2]; exact no (fun h => by unfold NodeOk at h; dsimp only at h; omega)
  by_cases h3 : 0 ≤ c ∧ c ≤ 4503599627370496
  rotate_left
  · rw [decide_eq_true h1, decide_eq_true h2, decide_eq_false h3]; exact no (fun h => by unfold NodeOk at h; dsimp only at h; omega)
  by_cases h4 : LenOkN u n
  rotate_left
  · rw [decide_eq_true h1, decide_eq_true h2, decide_eq_true h3, decide_eq_false h4]; exact no (fun h => by unfold NodeOk at h; exact h4 h.2.2.2.2.2.2.2.2.2.2.2.2.2.2.2.2.2)
  rw [decide_eq_true h1, decide_eq_true h2, decide_eq_true h3, decide_eq_true h4]
  simp only [bnd_mk, Bool.not_true, Bool.not_false, cnd_t, cnd_f, p_count, p_number]
  have h4' := h4
  unfold LenOkN at h4
  by_cases o1 : o = 1
  · subst o1
    rw [decide_eq_true rfl, cnd_t]
    apply fin
    rw [eqT_iff tNod rfl]
    simp only [Prod.mk.injEq, eq_self, and_true, true_and]
    unfold NodeOk LenOkN
    dsimp only
    omega
  rw [decide_eq_false o1, cnd_f]
  by_cases o2 : o = 2
  · subst o2
    simp only [decide_true, cnd_t, bnd_mk]
    apply fin
    rw [eqT_iff tNod rfl]
    simp only [Prod.mk.injEq, eq_self, and_true, true_and]
    unfold NodeOk LenOkN
    dsimp only
    omega
  rw [decide_eq_false o2]
  by_cases o5 : o = 5
  · subst o5
    simp only [decide_true, cnd_t, cnd_f, bnd_mk]
    apply fin
    rw [eqT_iff tNod rfl]
    simp only [Prod.mk.injEq, eq_self, and_true, true_and]
    unfold NodeOk LenOkN
    dsimp only
    omega
  rw [decide_eq_false o5]
  simp only [cnd_f, bnd_mk]
  by_cases o3 : o = 3
  · subst o3
    rw [decide_eq_true rfl, cnd_t, cnd_some_and, bnd_mk]
    apply fin
    rw [Bool.and_eq_true, eqT_iff tNod rfl, decide_eq_true_eq]
    simp only [Prod.mk.injEq, eq_self, and_true, true_and]
    unfold NodeOk LenOkN
    dsimp only
    omega
  rw [decide_eq_false o3, cnd_f]
  by_cases o4 : o = 4
  · subst o4
    rw [decide_eq_true rfl, cnd_t, cnd_some_and, bnd_mk]
    apply fin
    rw [Bool.and_eq_true, eqT_iff tNod rfl, decide_eq_true_eq]
    simp only [Prod.mk.injEq, eq_self, and_true, true_and]
    unfold NodeOk LenOkN
    dsimp only
    omega
  rw [decide_eq_false o4, cnd_f]
  by_cases o6 : o = 6
  · subst o6
    rw [decide_eq_true rfl, cnd_t, cnd_some_and, bnd_mk, cnd_some_and, bnd_mk]
    apply fin
    rw [Bool.and_eq_true, Bool.and_eq_true, eqT_iff tNod rfl, decide_eq_true_eq, decide_eq_true_eq]
    simp only [Prod.mk.injEq, eq_self, and_true, true_and]
    unfold NodeOk LenOkN
    dsimp only
    omega
  rw [decide_eq_false o6, cnd_f]
  by_cases o7 : o = 7
  · subst o7
    rw [decide_eq_true rfl, cnd_t, cnd_some_and, bnd_mk]
    apply fin
    rw [Bool.and_eq_true, eqT_iff tNod rfl, decide_eq_true_eq]
    simp only [Prod.mk.injEq, eq_self, and_true, true_and]
    unfold NodeOk LenOkN
    dsimp only
    omega
  rw [decide_eq_false o7, cnd_f]
  by_cases o8 : o = 8
  · subst o8
    rw [decide_eq_true rfl, cnd_t]
    apply fin
    rw [eqT_iff tNod rfl]
    simp only [Prod.mk.injEq, eq_self, and_true, true_and]
    unfold NodeOk LenOkN
    dsimp only
    omega
  rw [decide_eq_false o8, cnd_f]
  apply fin
  rw [eqT_iff tNod rfl]
  simp only [Prod.mk.injEq, eq_self, and_true, true_and]
  unfold NodeOk LenOkN
  dsimp only
  omega
theorem r_may15 (d : NodD) : regimenref15_May (d, ()) = some (decide (NodeOk d)) := by
  obtain ⟨o, a, b, c, k, ⟨u, n, _⟩, _⟩ := d
  unfold regimenref15_May regimenref15_q regimenref14_May
  dsimp only
  have hE : eqT (.pr (.int .i64) (.pr (.int .i64) .unit)) (u, n, ()) (0, 0, ()) = (decide (u = 0) && decide (n = 0)) := by
    rw [Bool.eq_iff_iff, eqT_iff (.pr (.int .i64) (.pr (.int .i64) .unit)) rfl]
    simp [Prod.mk.injEq]
  rw [hE]
  simp only [bnd_mk, cnd_some_and, cnd_some_or]
  simp only [cnd_if, ite_some, bnd_mk]
  have fin : ∀ (x : Bool) (Q : Prop), (x = true ↔ Q) → some x = some (decide Q) := fun x Q h => by
    congr 1
    rw [Bool.eq_iff_iff, h, decide_eq_true_eq]
  apply fin
  unfold NodeOk LenOkN
  dsimp only
  split
  · rename_i hb
    simp only [Bool.or_eq_true, Bool.and_eq_true, decide_eq_true_eq, Bool.not_eq_true', decide_eq_false_iff_not, Bool.and_eq_false_iff, Bool.or_eq_false_iff] at hb
    exact ⟨fun h => (Bool.false_ne_true h).elim, fun h => by omega⟩
  rename_i hb1
  split
  · rename_i hb
    simp only [Bool.or_eq_true, Bool.and_eq_true, decide_eq_true_eq, Bool.not_eq_true', decide_eq_false_iff_not, Bool.and_eq_false_iff, Bool.or_eq_false_iff] at hb
    exact ⟨fun h => (Bool.false_ne_true h).elim, fun h => by omega⟩
  rename_i hb2
  split
  · rename_i hb
    simp only [Bool.or_eq_true, Bool.and_eq_true, decide_eq_true_eq, Bool.not_eq_true', decide_eq_false_iff_not, Bool.and_eq_false_iff, Bool.or_eq_false_iff] at hb
    exact ⟨fun h => (Bool.false_ne_true h).elim, fun h => by omega⟩
  rename_i hb3
  simp only [Bool.or_eq_true, Bool.and_eq_true, decide_eq_true_eq, Bool.not_eq_true', decide_eq_false_iff_not, Bool.and_eq_false_iff, Bool.or_eq_false_iff] at hb1 hb2 hb3
  split
  · rename_i hb
    simp only [Bool.or_eq_true, Bool.and_eq_true, decide_eq_true_eq, Bool.not_eq_true', decide_eq_false_iff_not, Bool.and_eq_false_iff, Bool.or_eq_false_iff] at hb
    exact ⟨fun h => (Bool.false_ne_true h).elim, fun h => by omega⟩
  · rename_i hb
    simp only [Bool.or_eq_true, Bool.and_eq_true, decide_eq_true_eq, Bool.not_eq_true', decide_eq_false_iff_not, Bool.and_eq_false_iff, Bool.or_eq_false_iff] at hb ⊢
    omega
end Go.Proofs.Ytggmomkohmcciaa.F
