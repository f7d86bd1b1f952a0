/- Trees as nodes: why nodes are no tree: the program's check and the reference's. -/
import Derived.Test.YtggmomkohmcciaaP15CFlatThen
set_option linter.unusedVariables false
set_option linter.unusedSimpArgs false
namespace Go.Proofs.Ytggmomkohmcciaa.F
open Go.VX
open Classical

theorem ncontains (l : List NodD) (P : NodD → Prop) (f : NodD × Unit → Option Bool) (hl : l.length ≤ 9223372036854775807) (hf : ∀ v, v ∈ l → f (v, ()) = some (decide (P v))) :
    ∃ q, slices_ContainsFunc_regimen_api_Node_regimen_api_Node (l, f, ()) = some q ∧ (q = true ↔ ∃ i, i < l.length ∧ P (nth zNod l i)) := by
  unfold slices_ContainsFunc_regimen_api_Node_regimen_api_Node slices_IndexFunc_regimen_api_Node_regimen_api_Node
  dsimp only
  obtain ⟨r, e, h⟩ := loop_rule (ρ := Unit ⊕ Int) (f := (fun (s2 : Int × Unit) => cnd (decide (s2.1 < (l.length : Int))) (bnd (ati l s2.1) fun v3 => bnd (f (v3, ())) fun r4 => cnd r4 (inrE (inrE (some s2.1))) (inlE (wr .i64 (s2.1 + 1), ()))) (inrE (inlE (())))))
    (fun s => 0 ≤ s.1 ∧ s.1 ≤ l.length ∧ ∀ i : Nat, (i : Int) < s.1 → ¬ P (nth zNod l i)) (fun s => l.length - s.1.toNat)
    (fun r => (r = .inl () ∧ ∀ i, i < l.length → ¬ P (nth zNod l i)) ∨ (∃ i : Nat, r = .inr (i : Int) ∧ i < l.length ∧ P (nth zNod l i))) (fun s ⟨i0, i1, i2⟩ => by
      obtain ⟨i, _⟩ := s
      dsimp only at i0 i1 i2 ⊢
      obtain ⟨k, rfl⟩ : ∃ k : Nat, i = k := ⟨i.toNat, by omega⟩
      by_cases hk : k < l.length
      · rw [lt_true hk, cnd_t, ati_d zNod hk, bnd_mk, hf _ (nth_mem hk), bnd_mk, wr_succ hk hl]
        by_cases hp : P (nth zNod l k)
        · right
          rw [decide_eq_true hp]
          exact ⟨.inr (k : Int), rfl, .inr ⟨k, rfl, hk, hp⟩⟩
        · left
          rw [decide_eq_false hp]
          refine ⟨_, rfl, ⟨by dsimp only; omega, by dsimp only; omega, fun j hj => ?_⟩, by dsimp only; omega⟩
          dsimp only at hj
          by_cases hjk : j = k
          · subst hjk; exact hp
          · exact i2 j (by omega)
      · right
        have hkn : k = l.length := by omega
        subst hkn
        rw [lt_false, cnd_f]
        exact ⟨_, rfl, .inl ⟨rfl, fun i hi => i2 i (by omega)⟩⟩) (0, ()) ⟨by dsimp only; omega, by dsimp only; omega, fun i hi => by dsimp only at hi; omega⟩
  rw [e]
  rcases h with ⟨rfl, h⟩ | ⟨i, rfl, hi, hp⟩
  · rw [bndS_l, bnd_mk, decide_eq_false (show ¬ (-1 : Int) ≥ 0 by omega)]
    exact ⟨false, rfl, fun h => (Bool.false_ne_true h).elim, fun ⟨i, hi, hp⟩ => (h i hi hp).elim⟩
  · rw [bndS_r, bnd_mk, decide_eq_true (by omega : (i : Int) ≥ 0)]
    exact ⟨true, rfl, fun _ => ⟨i, hi, hp⟩, fun _ => rfl⟩
def NodesOk (l : List NodD) : Prop := ∀ i, i < l.length → NodeOk (nth zNod l i)
noncomputable def checkF (l : List NodD) : Int := if 64 < l.length then 9 else if WholeL l then (if NodesOk l then (if 32 < dep (opsN l) then 7 else 0) else 1) else 1
def TreeOk (l : List NodD) : Prop := WholeL l ∧ NodesOk l ∧ dep (opsN l) ≤ 32
theorem check_zero (l : List NodD) : checkF l = 0 ↔ TreeOk l := by
  unfold checkF TreeOk
  by_cases h1 : 64 < l.length
  · rw [if_pos h1]
    exact ⟨fun h => by omega, fun h => by have := h.1.2; omega⟩
  · rw [if_neg h1]
    by_cases h2 : WholeL l
    · rw [if_pos h2]
      by_cases h3 : NodesOk l
      · rw [if_pos h3]
        split
        · exact ⟨fun h => by omega, fun h => by omega⟩
        · exact ⟨fun h => ⟨h2, h3, by omega⟩, fun h => rfl⟩
      · rw [if_neg h3]
        exact ⟨fun h => by omega, fun h => (h3 h.2.1).elim⟩
    · rw [if_neg h2]
      exact ⟨fun h => by omega, fun h => (h2 h.1).elim⟩
theorem p_check15 (l : List NodD) (hl : l.length ≤ 1000000) : tree_Check (l, ()) = some (checkF l) := by
  unfold tree_Check checkF
  dsimp only
  by_cases h1 : 64 < l.length
  · rw [if_pos h1, decide_eq_true (by omega : (l.length : Int) > 64)]; rfl
  rw [if_neg h1, decide_eq_false (by omega : ¬ (l.length : Int) > 64), cnd_f, p_whole l hl, bnd_mk]
  by_cases h2 : WholeL l
  rotate_left
  · rw [if_neg h2, decide_eq_false h2]; rfl
  obtain ⟨q, e, hq⟩ := ncontains l (fun d => ¬ NodeOk d) (fun a3 => bnd (tree_Check_1 a3) some) (by omega) (fun v _ => by
    unfold tree_Check_1
    dsimp only
    rw [p_may15, bnd_mk, bnd_mk]
    congr 1
    rw [Bool.eq_iff_iff]
    simp)
  rw [if_pos h2, decide_eq_true h2, Bool.not_true, cnd_f, e]
  simp only [bnd_mk]
  by_cases h3 : NodesOk l
  · have hq0 : q = false := by
      cases q with
      | false => rfl
      | true =>
        obtain ⟨i, hi, hn⟩ := hq.1 rfl
        exact (hn (h3 i hi)).elim
    rw [if_pos h3, hq0, cnd_f, p_depth l h2, bnd_mk]
    by_cases h4 : 32 < dep (opsN l)
    · rw [if_pos h4, decide_eq_true (by omega : ((dep (opsN l) : Nat) : Int) > 32)]; rfl
    · rw [if_neg h4, decide_eq_false (by omega : ¬ ((dep (opsN l) : Nat) : Int) > 32)]; rfl
  · rw [if_neg h3, hq.2 (Classical.byContradiction fun hn => h3 fun i hi => Classical.byContradiction fun hk => hn ⟨i, hi, hk⟩)]; rfl
theorem r_check15 (l : List NodD) (hl : l.length ≤ 1000000) : regimenref15_Check (l, ()) = some (checkF l) := by
  unfold regimenref15_Check checkF
  dsimp only
  by_cases h1 : 64 < l.length
  · rw [if_pos h1, decide_eq_true (by omega : (l.length : Int) > 64)]; rfl
  rw [if_neg h1, decide_eq_false (by omega : ¬ (l.length : Int) > 64), cnd_f, r_whole15 l hl, bnd_mk]
  by_cases h2 : WholeL l
  rotate_left
  · rw [if_neg h2, decide_eq_false h2]; rfl
  rw [if_pos h2, decide_eq_true h2, Bool.not_true, cnd_f]
  have h0 := walk_pos _ _ _ h2.1
  rw [all_as (NodesOk l) l.length (fun i => NodeOk (nth zNod l i)) _ (.inr 1) (.inl ()) Iff.rfl ?_ ?_]
  · rw [bndS_ite]
    by_cases h3 : NodesOk l
    · have hr := r_depth l 0 hl h0 (whole_at l h2.1 0 h0)
      rw [List.drop_zero] at hr
      rw [if_pos h3, if_pos h3, show regimenref15_Depth (l, 0, ()) = _ from hr, bnd_mk]
      by_cases h4 : 32 < dep (opsN l)
      · rw [if_pos h4, decide_eq_true (by omega : ((dep (opsN l) : Nat) : Int) > 32)]; rfl
      · rw [if_neg h4, decide_eq_false (by omega : ¬ ((dep (opsN l) : Nat) : Int) > 32)]; rfl
    · rw [if_neg h3, if_neg h3]
  · intro i hi _
    dsimp only
    rw [lt_true hi, cnd_t, ati_d zNod hi, bnd_mk, r_may15, bnd_mk, wr_succ hi (by omega)]
    by_cases h : NodeOk (nth zNod l i)
    · rw [if_pos h, decide_eq_true h]; rfl
    · rw [if_neg h, decide_eq_false h]; rfl
  · intro _
    dsimp only
    rw [lt_false]; rfl
end Go.Proofs.Ytggmomkohmcciaa.F
