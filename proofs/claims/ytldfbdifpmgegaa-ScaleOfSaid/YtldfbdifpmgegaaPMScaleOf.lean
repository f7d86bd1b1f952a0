/- Nodes and rates scaled: the program's and the reference's are the same. -/
import Derived.Test.YtldfbdifpmgegaaPIScaleOf
import Derived.Test.YtldfbdifpmgegaaPLScaleOf
set_option linter.unusedVariables false
set_option linter.unusedSimpArgs false
namespace Go.Proofs.Ytldfbdifpmgegaa.F
open Go.VX

def I64 (x : Int) : Prop := -9223372036854775808 ≤ x ∧ x ≤ 9223372036854775807
def NodeR (n : NodeD) : Prop := I64 n.2.1 ∧ I64 n.2.2.1 ∧ I64 n.2.2.2.1
def gN (k : Int) (n : NodeD) : NodeD := (n.1, (MulS n.2.1 k).1, (MulS n.2.2.1 k).1, (MulS n.2.2.2.1 k).1, n.2.2.2.2)
def gS (k : Int) (s : SetD) : SetD := if s.2.1 = 0 then (s.1, s.2.1, s.2.2.1.map (gN k), s.2.2.2) else s
def gP (k : Int) (p : PhaseD) : PhaseD := (p.1, p.2.1, p.2.2.1, p.2.2.2.1.map (gS k), p.2.2.2.2)
def RatesS (k : Int) (r : RecipeD) : RecipeD := (r.1, r.2.1, r.2.2.1, r.2.2.2.1, r.2.2.2.2.1, r.2.2.2.2.2.1, r.2.2.2.2.2.2.1, r.2.2.2.2.2.2.2.1.map (gP k), r.2.2.2.2.2.2.2.2)
section
variable (k : Int) (k0 : 0 ≤ k) (k1 : k ≤ 4294967296)
include k0 k1
theorem p_times (x : Int) (h : I64 x) : scale_times (x, k, ()) = some (MulS x k).1 := by
  unfold scale_times
  dsimp only
  rw [p_fixmul x k h.1 h.2 (by omega) (by omega)]
  rfl
theorem r_times (x : Int) (h : I64 x) : regimenref04_Part (x, k, ()) = some (MulS x k).1 := rpart x k h.1 h.2 (by omega) (by omega)
theorem p_nodes (l : List NodeD) (hl : l.length ≤ 1000000) (hr : ∀ j, j < l.length → NodeR (nth zNode l j)) : scale_Nodes (l, k, ()) = some (l.map (gN k), 0, ()) := by
  unfold scale_Nodes slices_Clone_regimen_api_Node_regimen_api_Node
  dsimp only
  rw [decide_eq_false (by omega : ¬ k < 0), decide_eq_false (by omega : ¬ k > 4294967296), clone_ok l _ (by omega)]
  simp only [bnd_mk, cnd_t, cnd_f, Bool.not_false]
  rw [set_loop zNode l (gN k) _ ?_ ?_]
  · rfl
  · intro i o hi ho hn
    have hv := hr i hi
    dsimp only
    rw [lt_true hi, cnd_t, inR_ok hi, bnd_mk, ati_d zNode (by omega), hn, bnd_mk, wr_succ hi (by omega)]
    generalize nth zNode l i = v at *
    rw [p_times k k0 k1 _ hv.1, p_times k k0 k1 _ hv.2.1, p_times k k0 k1 _ hv.2.2]
    simp only [bnd_mk, Int.toNat_natCast]
    rw [ati_d zNode (by omega), bnd_mk, ati_d zNode (by simp; omega), bnd_mk, ati_d zNode (by simp; omega), bnd_mk]
    simp only [List.set_set]
    rw [nth_set zNode _ _ _ _ (by omega), nth_set zNode _ _ _ _ (by omega), if_pos rfl, if_pos rfl, hn]
    rfl
  · intro o ho
    dsimp only
    rw [lt_false]; rfl
theorem r_nodes (l : List NodeD) (hl : l.length ≤ 1000000) (hr : ∀ j, j < l.length → NodeR (nth zNode l j)) : regimenref53_Nodes (l, k, ()) = some (l.map (gN k)) := by
  unfold regimenref53_Nodes
  dsimp only
  rw [app_loop zNode l (gN k) _ ?_ ?_]
  · rfl
  · intro i o hi ho
    have hv := hr i hi
    dsimp only
    rw [lt_true hi, cnd_t, ati_d zNode hi, bnd_mk, wr_succ hi (by omega)]
    generalize nth zNode l i = v at *
    rw [r_times k k0 k1 _ hv.1, r_times k k0 k1 _ hv.2.1, r_times k k0 k1 _ hv.2.2]
    simp only [bnd_mk]
    rw [app_ok (by simp; omega)]
    rfl
  · intro o ho
    dsimp only
    rw [lt_false]; rfl
def PhR (p : PhaseD) : Prop := p.2.2.2.1.length ≤ 1000000 ∧ ∀ j, j < p.2.2.2.1.length → (nth zSet p.2.2.2.1 j).2.2.1.length ≤ 1000000 ∧ ∀ m, m < (nth zSet p.2.2.2.1 j).2.2.1.length → NodeR (nth zNode (nth zSet p.2.2.2.1 j).2.2.1 m)
theorem p_rates (r : RecipeD) (hl : r.2.2.2.2.2.2.2.1.length ≤ 1000000) (hr : ∀ j, j < r.2.2.2.2.2.2.2.1.length → PhR (nth zPhase r.2.2.2.2.2.2.2.1 j)) : scale_Rates (r, k, ()) = some (RatesS k r, 0, ()) := by
  unfold scale_Rates slices_Clone_regimen_api_Phase_regimen_api_Phase slices_Clone_regimen_api_Set_regimen_api_Set
  dsimp only
  rw [decide_eq_false (by omega : ¬ k < 0), decide_eq_false (by omega : ¬ k > 4294967296), clone_ok r.2.2.2.2.2.2.2.1 _ (by omega)]
  simp only [bnd_mk, cnd_t, cnd_f, Bool.not_false]
  rw [set_loop zPhase r.2.2.2.2.2.2.2.1 (gP k) _ ?_ ?_]
  · rfl
  · intro i o hi ho hn
    have hv := hr i hi
    dsimp only
    rw [lt_true hi, cnd_t, inR_ok hi, bnd_mk, ati_d zPhase (by omega), hn, bnd_mk, wr_succ hi (by omega)]
    generalize nth zPhase r.2.2.2.2.2.2.2.1 i = v at *
    rw [clone_ok v.2.2.2.1 _ (by have := hv.1; omega), bnd_mk, set_loop zSet v.2.2.2.1 (gS k) _ ?_ ?_]
    · simp only [bnd_mk, Int.toNat_natCast]
      rw [ati_d zPhase (by omega), hn]
      rfl
    · intro j q hj hq hqn
      have hu := hv.2 j hj
      dsimp only
      rw [lt_true hj, cnd_t, inR_ok hj, bnd_mk, ati_d zSet (by omega), hqn, bnd_mk, wr_succ hj (by have := hv.1; omega)]
      unfold gS
      generalize nth zSet v.2.2.2.1 j = u at *
      by_cases h0 : u.2.1 = 0
      · rw [decide_eq_true h0, if_pos h0, p_nodes k k0 k1 _ hu.1 hu.2]
        simp only [bnd_mk, cnd_t, Int.toNat_natCast]
        rw [ati_d zSet (by omega), hqn]
        rfl
      · rw [decide_eq_false h0, if_neg h0]
        simp only [bnd_mk, cnd_f]
        have : q.set j u = q := nth_ext zSet (by simp) fun m hm => by
          rw [nth_set zSet _ _ _ _ (by omega)]
          by_cases e : j = m
          · rw [if_pos e, ← e, hqn]
          · rw [if_neg e]
        rw [this]
        rfl
    · intro q hq
      dsimp only
      rw [lt_false]; rfl
  · intro o ho
    dsimp only
    rw [lt_false]; rfl
theorem r_rates (r : RecipeD) (hl : r.2.2.2.2.2.2.2.1.length ≤ 1000000) (hr : ∀ j, j < r.2.2.2.2.2.2.2.1.length → PhR (nth zPhase r.2.2.2.2.2.2.2.1 j)) : regimenref53_Rates (r, k, ()) = some (RatesS k r) := by
  unfold regimenref53_Rates
  dsimp only
  obtain ⟨o, e, h⟩ := loop_rule (f := (fun (s2 : Int × RecipeD × Unit) => cnd (decide (s2.1 < (r.2.2.2.2.2.2.2.1.length : Int))) (bnd (ati r.2.2.2.2.2.2.2.1 s2.1) fun v3 => bnd (loopP (fun (s5 : Int × PhaseD × Unit) => bnd (ati r.2.2.2.2.2.2.2.1 s2.1) fun v6 => cnd (decide (s5.1 < (v6.2.2.2.1.length : Int))) (bnd (ati r.2.2.2.2.2.2.2.1 s2.1) fun v7 => bnd (ati v7.2.2.2.1 s5.1) fun v8 => bnd (cnd (decide (v8.2.1 = 0)) (bnd (regimenref53_Nodes (v8.2.2.1, k, ())) fun r10 => some ((v8.1, v8.2.1, r10, v8.2.2.2), ())) (some (v8, ()))) fun j9 => bnd (app 2932031007402 s5.2.1.2.2.2.1 [j9.1]) fun v11 => inlE (wr .i64 (s5.1 + 1), (s5.2.1.1, s5.2.1.2.1, s5.2.1.2.2.1, v11, s5.2.1.2.2.2.2), ())) (inrE (some (s5.2.1, ())))) (0, (v3.1, v3.2.1, v3.2.2.1, [], v3.2.2.2.2), ())) fun j4 => bnd (app 1759218604441 s2.2.1.2.2.2.2.2.2.2.1 [j4.1]) fun v12 => inlE (wr .i64 (s2.1 + 1), (s2.2.1.1, s2.2.1.2.1, s2.2.1.2.2.1, s2.2.1.2.2.2.1, s2.2.1.2.2.2.2.1, s2.2.1.2.2.2.2.2.1, s2.2.1.2.2.2.2.2.2.1, v12, s2.2.1.2.2.2.2.2.2.2.2), ())) (inrE (some (s2.2.1, ())))))
    (fun s => 0 ≤ s.1 ∧ s.1 ≤ r.2.2.2.2.2.2.2.1.length ∧ s.2.1 = (r.1, r.2.1, r.2.2.1, r.2.2.2.1, r.2.2.2.2.1, r.2.2.2.2.2.1, r.2.2.2.2.2.2.1, (r.2.2.2.2.2.2.2.1.take s.1.toNat).map (gP k), r.2.2.2.2.2.2.2.2)) (fun s => r.2.2.2.2.2.2.2.1.length - s.1.toNat) (fun o => o = (RatesS k r, ())) (fun s ⟨i0, i1, i2⟩ => by
      obtain ⟨i, o, _⟩ := s
      dsimp only at *
      obtain ⟨n, rfl⟩ : ∃ n : Nat, i = n := ⟨i.toNat, by omega⟩
      rw [Int.toNat_natCast] at *
      by_cases hn : n < r.2.2.2.2.2.2.2.1.length
      · left
        have hv := hr n hn
        rw [lt_true hn, cnd_t, ati_d zPhase hn, bnd_mk, wr_succ hn (by omega)]
        generalize hvv : nth zPhase r.2.2.2.2.2.2.2.1 n = v at *
        obtain ⟨q, e, h⟩ := loop_rule (f := (fun (s5 : Int × PhaseD × Unit) => bnd (some v) fun v6 => cnd (decide (s5.1 < (v6.2.2.2.1.length : Int))) (bnd (some v) fun v7 => bnd (ati v7.2.2.2.1 s5.1) fun v8 => bnd (cnd (decide (v8.2.1 = 0)) (bnd (regimenref53_Nodes (v8.2.2.1, k, ())) fun r10 => some ((v8.1, v8.2.1, r10, v8.2.2.2), ())) (some (v8, ()))) fun j9 => bnd (app 2932031007402 s5.2.1.2.2.2.1 [j9.1]) fun v11 => inlE (wr .i64 (s5.1 + 1), (s5.2.1.1, s5.2.1.2.1, s5.2.1.2.2.1, v11, s5.2.1.2.2.2.2), ())) (inrE (some (s5.2.1, ())))))
          (fun s => 0 ≤ s.1 ∧ s.1 ≤ v.2.2.2.1.length ∧ s.2.1 = (v.1, v.2.1, v.2.2.1, (v.2.2.2.1.take s.1.toNat).map (gS k), v.2.2.2.2)) (fun s => v.2.2.2.1.length - s.1.toNat) (fun q => q = (gP k v, ())) (fun s ⟨j0, j1, j2⟩ => by
            obtain ⟨j, q, _⟩ := s
            dsimp only at *
            obtain ⟨m, rfl⟩ : ∃ n : Nat, j = n := ⟨j.toNat, by omega⟩
            rw [Int.toNat_natCast] at *
            by_cases hm : m < v.2.2.2.1.length
            · left
              have hu := hv.2 m hm
              have hvl := hv.1
              rw [bnd_mk, lt_true hm, cnd_t, bnd_mk, ati_d zSet hm, bnd_mk, wr_succ hm (by omega)]
              have key : (bnd (cnd (decide ((nth zSet v.2.2.2.1 m).2.1 = 0)) (bnd (regimenref53_Nodes ((nth zSet v.2.2.2.1 m).2.2.1, k, ())) fun r10 => some (((nth zSet v.2.2.2.1 m).1, (nth zSet v.2.2.2.1 m).2.1, r10, (nth zSet v.2.2.2.1 m).2.2.2), ())) (some (nth zSet v.2.2.2.1 m, ()))) fun j9 => some j9) = some (gS k (nth zSet v.2.2.2.1 m), ()) := by
                unfold gS
                by_cases h0 : (nth zSet v.2.2.2.1 m).2.1 = 0
                · rw [decide_eq_true h0, if_pos h0, r_nodes k k0 k1 _ hu.1 hu.2]; rfl
                · rw [decide_eq_false h0, if_neg h0]; rfl
              have key' : (cnd (decide ((nth zSet v.2.2.2.1 m).2.1 = 0)) (bnd (regimenref53_Nodes ((nth zSet v.2.2.2.1 m).2.2.1, k, ())) fun r10 => some (((nth zSet v.2.2.2.1 m).1, (nth zSet v.2.2.2.1 m).2.1, r10, (nth zSet v.2.2.2.1 m).2.2.2), ())) (some (nth zSet v.2.2.2.1 m, ()))) = some (gS k (nth zSet v.2.2.2.1 m), ()) := by
                rw [← key, bnd_id]
              rw [key', bnd_mk]
              subst j2
              dsimp only
              rw [app_ok (by simp; omega), bnd_mk]
              refine ⟨_, rfl, ⟨by dsimp only; omega, by dsimp only; omega, ?_⟩, by dsimp only; omega⟩
              dsimp only
              rw [show ((m : Int) + 1).toNat = m + 1 by omega, List.take_succ_eq_append_getElem hm, List.map_append]
              simp [nth, List.getD, hm]
            · right
              have hmn : m = v.2.2.2.1.length := by omega
              subst hmn
              refine ⟨_, by rw [bnd_mk, lt_false]; rfl, ?_⟩
              rw [j2, List.take_length]
              rfl) (0, (v.1, v.2.1, v.2.2.1, [], v.2.2.2.2), ()) ⟨by simp, by simp, by simp⟩
        rw [e, bnd_mk, h]
        subst i2
        dsimp only
        rw [app_ok (by simp; omega), bnd_mk]
        refine ⟨_, rfl, ⟨by dsimp only; omega, by dsimp only; omega, ?_⟩, by dsimp only; omega⟩
        dsimp only
        rw [show ((n : Int) + 1).toNat = n + 1 by omega, List.take_succ_eq_append_getElem hn, List.map_append, ← hvv]
        simp [nth, List.getD, hn]
      · right
        have hnn : n = r.2.2.2.2.2.2.2.1.length := by omega
        subst hnn
        refine ⟨_, by rw [lt_false]; rfl, ?_⟩
        rw [i2, List.take_length]
        rfl) (0, (r.1, r.2.1, r.2.2.1, r.2.2.2.1, r.2.2.2.2.1, r.2.2.2.2.2.1, r.2.2.2.2.2.2.1, [], r.2.2.2.2.2.2.2.2), ()) ⟨by simp, by simp, by simp⟩
  rw [e, h]
  rfl
end
end Go.Proofs.Ytldfbdifpmgegaa.F
