/- The law SnapDecodes, in plain Lean: which state any bytes are, of any plan, or why they are none; a state that is told may be, and no other bytes are the same one's. -/
import Derived.Test.YtggmomkohmcciacGreatVx3
import Derived.Test.YtggmomkohmcciacGreatP41ESnapDecodes
import Derived.Test.YtggmomkohmcciacGreatC41
set_option linter.unusedVariables false
set_option linter.unusedSimpArgs false
namespace Go.Proofs.YtggmomkohmcciacGreat.F
open Go.VX
open Classical
theorem pure_SnapDecodes (x : Ty.D (.tu T34 (.tu T48 .unit))) (h : Ty.wf (.tu T34 (.tu T48 .unit)) x) : regimenlaw41_SnapDecodes x = some true := by
  obtain ⟨p, b, _⟩ := x
  obtain ⟨hp, hb, _⟩ := h
  change PlanD at p
  change List Int at b
  have wp : WfP p := by
    obtain ⟨a0, a1, a2, a3, a4, sp, fz, tr, st, cu, ke, em, o1, o2, o3, sf, se, _⟩ := p
    obtain ⟨_, _, _, _, _, hsp, hfz, htr, _⟩ := hp
    exact ⟨hsp.1, hfz.1, htr.1, fun t ht => (htr.2 t ht).2.2.1.1⟩
  have hbb : ∀ c ∈ b, 0 ≤ c ∧ c ≤ 255 := fun c hc => hb.2 c hc
  unfold regimenlaw41_SnapDecodes
  dsimp only
  obtain ⟨q1, e1⟩ := lightD p
  rw [aw_regimenlaw41_awake, e1]
  cases q1 with
  | false => rfl
  | true =>
  by_cases k1 : p.1 > 3000
  · rw [decide_eq_true k1]; rfl
  rw [decide_eq_false k1]
  by_cases k2 : (b.length : Int) > 600
  · rw [decide_eq_true k2]; rfl
  rw [decide_eq_false k2, r_mayD p wp]
  obtain ⟨d1, d2, d3, d4⟩ := p_Decode p b wp (by omega) hbb
  by_cases hP : PlanOkD p
  rotate_left
  · rw [decide_eq_false hP, d1 hP]
    simp only [bnd_mk, Bool.not_true, Bool.not_false, cnd_t, cnd_f, decide_true]
    rw [p_zSame]
    rfl
  rw [decide_eq_true hP]
  simp only [bnd_mk, Bool.not_true, Bool.not_false, cnd_t, cnd_f, decide_true]
  rw [r_Read b (by omega) hbb]
  cases hr : readG b.length b with
  | none =>
    dsimp only
    rw [d2 hP hr]
    obtain ⟨s, q, e, _⟩ := r_Of41 [] (by simp)
    simp only [bnd_mk]
    rw [e]
    simp only [bnd_mk, Bool.not_true, Bool.not_false, cnd_t, cnd_f, decide_true]
    rw [p_zSame]
    rfl
  | some us =>
    dsimp only
    obtain ⟨hbc, hus⟩ := readG_some _ b us hbb hr
    have hul : us.length ≤ b.length := by
      have hc : ∀ l : List Nat, l.length ≤ (codes l).length := by
        intro l
        induction l with
        | nil => simp
        | cons u l ih =>
          have := code_pos u
          rw [codes, List.length_append, List.length_cons]
          omega
      have := hc us
      rw [← hbc] at this
      exact this
    obtain ⟨s, q, e, h⟩ := r_Of41 (us.map unfI) (by rw [List.length_map]; omega)
    rw [List.length_map] at h
    rcases h with ⟨rfl, hs, hl⟩ | ⟨rfl, hn⟩
    · have hin : NumsIn s := fun n hn => by
        rw [hs] at hn
        obtain ⟨u, hu1, rfl⟩ := List.mem_map.1 hn
        exact unf_range (hus u hu1)
      obtain ⟨hi, hsm⟩ := nums_ins s hin (by rw [hs, List.length_map]; omega)
      rw [d4 hP us s hr hl hs]
      simp only [bnd_mk]
      rw [e]
      simp only [bnd_mk, Bool.not_true, Bool.not_false, cnd_t, cnd_f, decide_true]
      rw [r_stateD p s hP hi]
      by_cases hS : StateOkD p s
      rotate_left
      · rw [decide_eq_false hS, if_neg hS]
        simp only [bnd_mk, Bool.not_true, Bool.not_false, cnd_t, cnd_f, decide_true]
        rw [p_zSame]
        rfl
      rw [decide_eq_true hS, if_pos hS]
      simp only [bnd_mk, Bool.not_true, Bool.not_false, cnd_t, cnd_f, decide_true]
      rw [p_Encode p s wp hi hsm hin, if_pos ⟨hP, hS⟩, hs, fold_map, ← hbc]
      simp only [bnd_mk, Bool.not_true, Bool.not_false, cnd_t, cnd_f, decide_true]
      rw [r_sameD s s hi, decide_eq_true rfl, same40 b b (by omega), decide_eq_true rfl]
      rfl
    · rw [d3 hP us hr (fun h => hn h)]
      simp only [bnd_mk]
      rw [e]
      simp only [bnd_mk, Bool.not_true, Bool.not_false, cnd_t, cnd_f, decide_true]
      rw [p_zSame]
      rfl
end Go.Proofs.YtggmomkohmcciacGreat.F
