/- Trees as nodes: where a tree ends: the program's walk and the reference's recursion. -/
import Derived.Test.YtggmomkohmcciaaPJFlatThen
set_option linter.unusedVariables false
set_option linter.unusedSimpArgs false
namespace Go.Proofs.Ytggmomkohmcciaa.F
open Go.VX
open Classical

abbrev NodD := Int × Int × Int × Int × Int × (Int × Int × Unit) × Unit
abbrev zNod : NodD := (0, 0, 0, 0, 0, (0, 0, ()), ())
theorem loopP_none {σ ρ : Type} {f : σ → Option (σ ⊕ ρ)} {s : σ} (h : f s = none) : loopP f s = none := by
  cases hs : loopP f s with
  | none => rfl
  | some r =>
    obtain ⟨n, hn⟩ : ∃ n, loopN f n s = some r := by
      unfold loopP at hs
      split at hs
      · exact ⟨_, hs⟩
      · cases hs
    cases n with
    | zero => cases hn
    | succ n =>
      simp only [loopN, h] at hn
      cases hn
def arN (o : Int) : Option Nat := if 1 ≤ o ∧ o ≤ 7 then some 0 else if o = 8 then some 1 else if o = 9 then some 2 else none
def arI (o : Int) : Int := match arN o with | some a => (a : Int) | none => -1
theorem p_arity (o : Int) : tree_Arity (o, ()) = some (arI o) := by
  unfold tree_Arity curve_Word arI arN
  dsimp only
  by_cases h1 : o < 1
  · rw [if_neg (by omega), if_neg (by omega), if_neg (by omega)]
    by_cases h0 : o < 0
    · rw [decide_eq_true h0, decide_eq_false (by omega : ¬ o = 6), decide_eq_false (by omega : ¬ o = 7), decide_eq_false (by omega : ¬ o = 8), decide_eq_false (by omega : ¬ o = 9)]; rfl
    · have : o = 0 := by omega
      subst this; rfl
  · by_cases h2 : o ≤ 9
    · have : o = 1 ∨ o = 2 ∨ o = 3 ∨ o = 4 ∨ o = 5 ∨ o = 6 ∨ o = 7 ∨ o = 8 ∨ o = 9 := by omega
      rcases this with rfl | rfl | rfl | rfl | rfl | rfl | rfl | rfl | rfl <;> rfl
    · rw [if_neg (by omega), if_neg (by omega), if_neg (by omega), decide_eq_false (by omega : ¬ o < 0), decide_eq_true (by omega : o ≥ 6), decide_eq_false (by omega : ¬ o = 6), decide_eq_false (by omega : ¬ o = 7), decide_eq_false (by omega : ¬ o = 8), decide_eq_false (by omega : ¬ o = 9)]; rfl
theorem r_arity (o : Int) : regimenref15_Arity (o, ()) = some (arI o) := by
  unfold regimenref15_Arity arI arN
  dsimp only
  by_cases h1 : o < 1
  · rw [if_neg (by omega), if_neg (by omega), if_neg (by omega), decide_eq_true h1]; rfl
  · by_cases h2 : o ≤ 9
    · have : o = 1 ∨ o = 2 ∨ o = 3 ∨ o = 4 ∨ o = 5 ∨ o = 6 ∨ o = 7 ∨ o = 8 ∨ o = 9 := by omega
      rcases this with rfl | rfl | rfl | rfl | rfl | rfl | rfl | rfl | rfl <;> rfl
    · rw [if_neg (by omega), if_neg (by omega), if_neg (by omega), decide_eq_false h1, decide_eq_true (by omega : o > 9)]; rfl
theorem ar_le {o : Int} {a : Nat} (h : arN o = some a) : a ≤ 2 := by
  unfold arN at h
  split at h
  · cases h; omega
  · split at h
    · cases h; omega
    · split at h
      · cases h; omega
      · cases h
theorem arI_some {o : Int} {a : Nat} (h : arN o = some a) : arI o = a := by unfold arI; rw [h]
theorem arI_none {o : Int} (h : arN o = none) : arI o = -1 := by unfold arI; rw [h]

def walk : List Int → Nat → Option Nat
  | _, 0 => some 0
  | [], _ + 1 => none
  | o :: r, c + 1 => match arN o with
    | none => none
    | some a => match walk r (c + a) with
      | some k => some (k + 1)
      | none => none
theorem walk_zero (l : List Int) : walk l 0 = some 0 := by cases l <;> rfl
theorem walk_add : ∀ (l : List Int) (m n : Nat), walk l (m + n) = match walk l m with | none => none | some k => match walk (l.drop k) n with | none => none | some j => some (k + j)
  | l, 0, n => by
    rw [walk_zero, Nat.zero_add]
    dsimp only
    rw [List.drop_zero]
    cases walk l n with
    | none => rfl
    | some j => dsimp only; rw [Nat.zero_add]
  | [], m + 1, n => by
    rw [show m + 1 + n = (m + n) + 1 by omega]
    simp only [walk]
  | o :: r, m + 1, n => by
    rw [show m + 1 + n = (m + n) + 1 by omega]
    simp only [walk]
    cases arN o with
    | none => rfl
    | some a =>
      dsimp only
      rw [show m + n + a = (m + a) + n by omega, walk_add r (m + a) n]
      cases walk r (m + a) with
      | none => rfl
      | some k =>
        dsimp only
        rw [List.drop_succ_cons]
        cases walk (r.drop k) n with
        | none => rfl
        | some j => dsimp only; congr 1; omega
theorem walk_le : ∀ (l : List Int) (c k : Nat), walk l c = some k → k ≤ l.length
  | l, 0, k, h => by rw [walk_zero] at h; cases h; omega
  | [], c + 1, k, h => by simp [walk] at h
  | o :: r, c + 1, k, h => by
    simp only [walk] at h
    cases ha : arN o with
    | none => rw [ha] at h; cases h
    | some a =>
      rw [ha] at h
      dsimp only at h
      cases hw : walk r (c + a) with
      | none => rw [hw] at h; cases h
      | some j =>
        rw [hw] at h
        have := walk_le r (c + a) j hw
        cases h
        rw [List.length_cons]
        omega
theorem walk_pos : ∀ (l : List Int) (c k : Nat), walk l (c + 1) = some k → 0 < k
  | [], c, k, h => by simp [walk] at h
  | o :: r, c, k, h => by
    simp only [walk] at h
    cases ha : arN o with
    | none => rw [ha] at h; cases h
    | some a =>
      rw [ha] at h
      dsimp only at h
      cases hw : walk r (c + a) with
      | none => rw [hw] at h; cases h
      | some j => rw [hw] at h; cases h; omega
def resE (l : List Int) (i c : Nat) : Int := match walk (l.drop i) c with | some k => ((i + k : Nat) : Int) | none => -1
def opsN (l : List NodD) : List Int := l.map (·.1)
theorem ops_len (l : List NodD) : (opsN l).length = l.length := List.length_map ..
theorem ops_drop (l : List NodD) {i : Nat} (h : i < l.length) : (opsN l).drop i = (nth zNod l i).1 :: (opsN l).drop (i + 1) := by
  rw [List.drop_eq_getElem_cons (by rw [ops_len]; exact h)]
  congr 1
  unfold opsN
  rw [List.getElem_map]
  simp [nth, List.getD, h]
theorem ops_end (l : List NodD) {i : Nat} (h : l.length ≤ i) : (opsN l).drop i = [] := List.drop_eq_nil_of_le (by rw [ops_len]; exact h)
theorem resE_le (l : List NodD) (i c : Nat) (hi : i ≤ l.length) : resE (opsN l) i c ≤ l.length ∧ -1 ≤ resE (opsN l) i c := by
  unfold resE
  cases hw : walk ((opsN l).drop i) c with
  | none => dsimp only; omega
  | some k =>
    have := walk_le _ _ _ hw
    rw [List.length_drop, ops_len] at this
    dsimp only
    omega
theorem p_end (l : List NodD) (i : Nat) (hl : l.length ≤ 1000000) (hi : i ≤ 1000000) : tree_End (l, (i : Int), ()) = some (resE (opsN l) i 1) := by
  unfold tree_End
  dsimp only
  rw [decide_eq_false (by omega : ¬ (i : Int) < 0), cnd_f]
  obtain ⟨r, e, h⟩ := loop_rule (ρ := (Int × Unit) ⊕ Int) (f := (fun (s2 : Int × Int × Unit) => cnd (decide (s2.2.1 > 0)) (bnd (cnd (!(decide (s2.1 ≥ (l.length : Int)))) (bnd (ati l s2.1) fun v3 => bnd (tree_Arity (v3.1, ())) fun r4 => some (decide (r4 < 0))) (some true)) fun j5 => cnd j5 (inrE (inrE (some (-1)))) (bnd (ati l s2.1) fun v6 => bnd (tree_Arity (v6.1, ())) fun r7 => inlE (wr .i64 (s2.1 + 1), wr .i64 (s2.2.1 + (wr .i64 (r7 - 1))), ()))) (inrE (inlE (s2.1, ())))))
    (fun s => ∃ j c : Nat, s = ((j : Int), (c : Int), ()) ∧ resE (opsN l) j c = resE (opsN l) i 1 ∧ j ≤ l.length + i ∧ c ≤ j + 1) (fun s => l.length + i + 1 - s.1.toNat)
    (fun r => (∃ j : Int, r = .inl (j, ()) ∧ j = resE (opsN l) i 1) ∨ (r = .inr (-1) ∧ resE (opsN l) i 1 = -1)) (fun s ⟨j, c, hs, hr, hj, hc⟩ => by
      subst hs
      dsimp only
      cases c with
      | zero =>
        right
        rw [decide_eq_false (by omega : ¬ ((0 : Nat) : Int) > 0), cnd_f]
        refine ⟨_, rfl, .inl ⟨_, rfl, ?_⟩⟩
        rw [← hr]
        unfold resE
        rw [walk_zero]
        rfl
      | succ c =>
        rw [decide_eq_true (by omega : ((c + 1 : Nat) : Int) > 0), cnd_t]
        by_cases hjl : j < l.length
        · rw [decide_eq_false (by omega : ¬ (j : Int) ≥ (l.length : Int)), ati_d zNod hjl]
          simp only [bnd_mk, p_arity, Bool.not_false, cnd_t]
          have hd : ∀ v, resE (opsN l) j (c + 1) = v → resE (opsN l) i 1 = v := fun v hv => hr.symm.trans hv
          cases ha : arN (nth zNod l j).1 with
          | none =>
            right
            rw [arI_none ha]
            refine ⟨.inr (-1), rfl, .inr ⟨rfl, hd _ ?_⟩⟩
            unfold resE
            rw [ops_drop l hjl]
            simp only [walk, ha]
          | some a =>
            left
            have ha2 := ar_le ha
            rw [arI_some ha, decide_eq_false (by omega : ¬ (a : Int) < 0), cnd_f, wr_id (x := (a : Int) - 1) (by omega) (by omega), wr_id (x := ((c + 1 : Nat) : Int) + ((a : Int) - 1)) (by omega) (by omega), wr_id (x := (j : Int) + 1) (by omega) (by omega)]
            refine ⟨_, rfl, ⟨j + 1, c + a, ?_, (hd _ ?_).symm, by omega, by omega⟩, by dsimp only; omega⟩
            · rw [show ((c + 1 : Nat) : Int) + ((a : Int) - 1) = ((c + a : Nat) : Int) by omega, show (j : Int) + 1 = ((j + 1 : Nat) : Int) by omega]
            · unfold resE
              rw [ops_drop l hjl]
              simp only [walk, ha]
              cases walk ((opsN l).drop (j + 1)) (c + a) with
              | none => rfl
              | some k => dsimp only; congr 1; omega
        · right
          rw [decide_eq_true (by omega : (j : Int) ≥ (l.length : Int))]
          refine ⟨.inr (-1), rfl, .inr ⟨rfl, ?_⟩⟩
          rw [← hr]
          unfold resE
          rw [ops_end l (by omega)]
          rfl) ((i : Int), 1, ()) ⟨i, 1, rfl, rfl, by omega, by omega⟩
  rw [e]
  rcases h with ⟨j, rfl, h⟩ | ⟨rfl, h⟩
  · rw [bndS_l, h]
  · rw [bndS_r, h]
theorem r_end_r (l : List NodD) (hl : l.length ≤ 1000000) : ∀ (n i : Nat), i ≤ 1000000 → regimenref15_End_r n (l, (i : Int), ()) = some (resE (opsN l) i 1) ∨ (regimenref15_End_r n (l, (i : Int), ()) = none ∧ n ≤ l.length - i)
  | 0, i, hi => .inr ⟨rfl, by omega⟩
  | n + 1, i, hi => by
    unfold regimenref15_End_r
    dsimp only
    rw [decide_eq_false (by omega : ¬ (i : Int) < 0)]
    by_cases hil : i < l.length
    rotate_left
    · left
      rw [decide_eq_true (by omega : (i : Int) ≥ (l.length : Int))]
      unfold resE
      rw [ops_end l (by omega)]
      rfl
    rw [decide_eq_false (by omega : ¬ (i : Int) ≥ (l.length : Int)), ati_d zNod hil]
    simp only [bnd_mk, r_arity, Bool.not_false, cnd_t, cnd_f]
    have hd : resE (opsN l) i 1 = match arN (nth zNod l i).1 with | none => -1 | some a => resE (opsN l) (i + 1) a := by
      unfold resE
      rw [ops_drop l hil]
      simp only [walk]
      cases arN (nth zNod l i).1 with
      | none => rfl
      | some a =>
        dsimp only
        rw [Nat.zero_add]
        cases walk ((opsN l).drop (i + 1)) a with
        | none => rfl
        | some k => dsimp only; congr 1; omega
    rw [hd]
    cases ha : arN (nth zNod l i).1 with
    | none => left; rw [arI_none ha]; rfl
    | some a =>
      have ha2 := ar_le ha
      rw [arI_some ha, decide_eq_false (by omega : ¬ (a : Int) < 0), cnd_f, wr_id (x := (i : Int) + 1) (by omega) (by omega), show (i : Int) + 1 = ((i + 1 : Nat) : Int) by omega]
      dsimp only
      match a, ha2 with
      | 0, _ =>
        left
        rw [loopP_done rfl, bndS_l]
        unfold resE
        rw [walk_zero]
      | 1, _ =>
        rcases r_end_r l hl n (i + 1) (by omega) with h1 | ⟨h1, h2⟩
        · left
          have hb := resE_le l (i + 1) 1 (by omega)
          by_cases hneg : resE (opsN l) (i + 1) 1 < 0
          · rw [loopP_done (r := .inr (-1)) (by dsimp only; rw [decide_eq_true (by omega : (0 : Int) < ((1 : Nat) : Int)), cnd_t, h1, bnd_mk, decide_eq_true hneg]; rfl), bndS_r]
            congr 1
            omega
          · rw [loopP_step (s' := (resE (opsN l) (i + 1) 1, 1, ())) (by dsimp only; rw [decide_eq_true (by omega : (0 : Int) < ((1 : Nat) : Int)), cnd_t, h1, bnd_mk, decide_eq_false hneg]; rfl), loopP_done rfl, bndS_l]
        · right
          refine ⟨?_, by omega⟩
          rw [loopP_none (by dsimp only; rw [decide_eq_true (by omega : (0 : Int) < ((1 : Nat) : Int)), cnd_t, h1]; rfl)]
          rfl
      | 2, _ =>
        rcases r_end_r l hl n (i + 1) (by omega) with h1 | ⟨h1, h2⟩
        · have hb := resE_le l (i + 1) 1 (by omega)
          have hw : resE (opsN l) (i + 1) 2 = if resE (opsN l) (i + 1) 1 < 0 then -1 else resE (opsN l) (resE (opsN l) (i + 1) 1).toNat 1 := by
            unfold resE
            rw [show (2 : Nat) = 1 + 1 from rfl, walk_add]
            cases walk ((opsN l).drop (i + 1)) 1 with
            | none => rfl
            | some k =>
              dsimp only
              rw [if_neg (by omega), Int.toNat_natCast, List.drop_drop]
              cases walk ((opsN l).drop (i + 1 + k)) 1 with
              | none => rfl
              | some j => dsimp only; congr 1; omega
          by_cases hneg : resE (opsN l) (i + 1) 1 < 0
          · left
            rw [loopP_done (r := .inr (-1)) (by dsimp only; rw [decide_eq_true (by omega : (0 : Int) < ((2 : Nat) : Int)), cnd_t, h1, bnd_mk, decide_eq_true hneg]; rfl), bndS_r, hw, if_pos hneg]
          · obtain ⟨m, hm⟩ : ∃ m : Nat, resE (opsN l) (i + 1) 1 = m := ⟨(resE (opsN l) (i + 1) 1).toNat, by omega⟩
            have hmi : i + 1 ≤ m := by
              unfold resE at hm
              cases hk : walk ((opsN l).drop (i + 1)) 1 with
              | none => rw [hk] at hm; dsimp only at hm; omega
              | some k => rw [hk] at hm; dsimp only at hm; omega
            rw [loopP_step (s' := (resE (opsN l) (i + 1) 1, 1, ())) (by dsimp only; rw [decide_eq_true (by omega : (0 : Int) < ((2 : Nat) : Int)), cnd_t, h1, bnd_mk, decide_eq_false hneg]; rfl), hw, if_neg hneg, hm, Int.toNat_natCast]
            rcases r_end_r l hl n m (by omega) with h3 | ⟨h3, h4⟩
            · left
              have hb2 := resE_le l m 1 (by omega)
              by_cases hneg2 : resE (opsN l) m 1 < 0
              · rw [loopP_done (r := .inr (-1)) (by dsimp only; rw [decide_eq_true (by omega : (1 : Int) < ((2 : Nat) : Int)), cnd_t, h3, bnd_mk, decide_eq_true hneg2]; rfl), bndS_r]
                congr 1
                omega
              · rw [loopP_step (s' := (resE (opsN l) m 1, 2, ())) (by dsimp only; rw [decide_eq_true (by omega : (1 : Int) < ((2 : Nat) : Int)), cnd_t, h3, bnd_mk, decide_eq_false hneg2]; rfl), loopP_done rfl, bndS_l]
            · right
              refine ⟨?_, by omega⟩
              rw [loopP_none (by dsimp only; rw [decide_eq_true (by omega : (1 : Int) < ((2 : Nat) : Int)), cnd_t, h3]; rfl)]
              rfl
        · right
          refine ⟨?_, by omega⟩
          rw [loopP_none (by dsimp only; rw [decide_eq_true (by omega : (0 : Int) < ((2 : Nat) : Int)), cnd_t, h1]; rfl)]
          rfl
theorem r_end (l : List NodD) (i : Nat) (hl : l.length ≤ 1000000) (hi : i ≤ 1000000) : regimenref15_End (l, (i : Int), ()) = some (resE (opsN l) i 1) := by
  unfold regimenref15_End
  refine recP_is (fun n y hy => ?_) (l.length + 1) ?_
  · rcases r_end_r l hl n i hi with h | ⟨h, _⟩
    · rw [h] at hy; exact (Option.some.inj hy).symm
    · rw [h] at hy; cases hy
  · rcases r_end_r l hl (l.length + 1) i hi with h | ⟨_, h⟩
    · exact h
    · omega
end Go.Proofs.Ytggmomkohmcciaa.F
