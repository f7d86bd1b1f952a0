/- The law FlatThen, in plain Lean: a then of two schedules is the first one over its steps, and the second one over the others. -/
import Derived.Test.YtggmomkohmcciaaVx3
import Derived.Test.YtggmomkohmcciaaP25TFlatThen
import Derived.Test.YtggmomkohmcciaaP25WFlatThen
set_option linter.unusedVariables false
set_option linter.unusedSimpArgs false
namespace Go.Proofs.Ytggmomkohmcciaa.F
open Go.VX
open Classical
theorem pure_FlatThen (x : Ty.D (.tu T22 T83)) (h : Ty.wf (.tu T22 T83) x) : regimenlaw25_FlatThen x = some true := by
  obtain ⟨l, ⟨i, n, _⟩, ep, _⟩ := x
  change List NodD at l
  change Int at i
  change Int at n
  change Int at ep
  unfold regimenlaw25_FlatThen
  dsimp only
  rw [awake25]
  by_cases hl : (l.length : Int) > 64
  · rw [decide_eq_true hl]; rfl
  rw [decide_eq_false hl, r_flatmay l ep (by omega)]
  by_cases hF : FlatOk l ep
  rotate_left
  · rw [decide_eq_false hF]; rfl
  rw [decide_eq_true hF]
  simp only [bnd_mk, Bool.not_true, Bool.not_false, cnd_t, cnd_f]
  have h0 := walk_pos _ _ _ hF.1.1.1
  cases l with
  | nil => simp at h0
  | cons d r =>
  rw [ati_0 zNod (by simp)]
  have hn0 : nth zNod (d :: r) 0 = d := rfl
  rw [hn0]
  simp only [bnd_mk]
  by_cases h9 : d.1 = 9
  rotate_left
  · rw [decide_eq_false h9]; rfl
  rw [decide_eq_true h9]
  by_cases h1 : n < 1
  · rw [decide_eq_true h1]; rfl
  rw [decide_eq_false h1]
  by_cases h2 : n > 1000000
  · rw [decide_eq_true h2]; rfl
  rw [decide_eq_false h2]
  by_cases h3 : i < 0
  · rw [decide_eq_true h3]; rfl
  rw [decide_eq_false h3]
  by_cases h4 : i ≥ n
  · rw [decide_eq_true h4]; rfl
  rw [decide_eq_false h4]
  obtain ⟨k1, hk, hk0, hE, hA, hB, hV⟩ := then_is d r ep hF h9
  have hlen : r.length ≤ 63 := by rw [List.length_cons] at hl; omega
  have hEnd := r_end (d :: r) 1 (by rw [List.length_cons]; omega) (by simp)
  rw [hE] at hEnd
  have hnode := (hF.2.1 d (List.mem_cons_self ..)).1
  have hL := node_len hnode
  unfold LenOkN at hL
  rw [show regimenref15_End (d :: r, 1, ()) = _ from hEnd, (p_At (d :: r) i n ep hF (by omega) (by omega) (by omega)).1]
  simp only [bnd_mk, Bool.not_true, Bool.not_false, cnd_t, cnd_f, decide_true]
  by_cases u0 : d.2.2.2.2.2.1.1 = 0
  rotate_left
  · rw [decide_eq_false u0]; rfl
  rw [decide_eq_true u0]
  simp only [bnd_mk, Bool.not_true, Bool.not_false, cnd_t, cnd_f, decide_true]
  by_cases hN : d.2.2.2.2.2.1.2.1 > n
  · rw [decide_eq_true hN]; rfl
  rw [decide_eq_false hN]
  have hW : WN d n ep = d.2.2.2.2.2.1.2.1 := by
    unfold WN WithinS lenV
    rw [if_pos u0, if_neg (by omega)]
  have hs1 : sub (d :: r) ((1 + k1 : Nat) : Int) ((d :: r).length : Int) = some (r.drop k1) := by
    unfold sub
    rw [if_pos (by rw [List.length_cons]; omega), Int.toNat_natCast, Int.toNat_natCast, List.take_length, Nat.add_comm, List.drop_succ_cons]
  have hs2 : sub (d :: r) 1 ((1 + k1 : Nat) : Int) = some (r.take k1) := by
    unfold sub
    rw [if_pos (by rw [List.length_cons]; omega), Int.toNat_natCast, Nat.add_comm, List.take_succ_cons]
    rfl
  have hV' := hV i n
  rw [hW] at hV'
  generalize d.2.2.2.2.2.1.2.1 = w at *
  simp only [bnd_mk, cnd_f]
  rw [hs1, hs2, hV', wr_id (x := i - w) (by omega) (by omega), wr_id (x := n - w) (by omega) (by omega)]
  simp only [bnd_mk]
  by_cases hi : i < w
  · rw [p_At_no (r.drop k1) (i - w) (n - w) ep (by rw [List.length_drop]; omega) (fun h => by omega), decide_eq_true hi, if_pos hi, (p_At (r.take k1) i w ep hA (by omega) hi (by omega)).1]
    simp only [bnd_mk, Bool.not_true, Bool.not_false, cnd_t, cnd_f, decide_true]
  · rw [(p_At (r.drop k1) (i - w) (n - w) ep hB (by omega) (by omega) (by omega)).1, decide_eq_false hi, if_neg hi]
    simp only [bnd_mk, Bool.not_true, Bool.not_false, cnd_t, cnd_f, decide_true]
end Go.Proofs.Ytggmomkohmcciaa.F
