/- Snapshots: states as bytes, and bytes as states. -/
import Derived.Test.YtggmomkohmcciacGreatP41DSnapDecodes
import Derived.Test.YtggmomkohmcciacGreatP37ESnapDecodes
set_option linter.unusedVariables false
set_option linter.unusedSimpArgs false
namespace Go.Proofs.YtggmomkohmcciacGreat.F
open Go.VX
open Classical
def NumsIn (s : StateD) : Prop := ∀ n ∈ numsS s, In64' n
theorem flat_mem : ∀ (l : List KeptD) (x : KeptD), x ∈ l → x.2.1 ∈ flatK l
  | k :: r, x, h => by
    rw [flatK]
    rcases List.mem_cons.1 h with rfl | h
    · simp
    · have := flat_mem r x h
      simp [this]
theorem nums_len (s : StateD) : (numsS s).length = 16 + 2 * s.2.2.2.2.2.1.length + s.2.2.2.2.2.2.1.length + s.2.2.2.2.2.2.2.1.2.1.length := (nums_parse s).2.2.2.2.2.2
theorem nums_ins (s : StateD) (h : NumsIn s) (hl : (numsS s).length ≤ 1000) : InS s ∧ Small s := by
  rw [nums_len] at hl
  refine ⟨⟨h s.1 (by simp [numsS]), by omega, by omega, by omega, fun x hx => h x.2.1 ?_⟩, ⟨by omega, by omega, by omega⟩⟩
  have := flat_mem _ x hx
  simp [numsS, tailS, this]
theorem fold_map (l : List Nat) : (l.map unfI).map foldI = l := by
  rw [List.map_map]
  conv => rhs; rw [← List.map_id l]
  exact List.map_congr_left fun u _ => fold_unf u
theorem unf_map (l : List Int) : (l.map foldI).map unfI = l := by
  rw [List.map_map]
  conv => rhs; rw [← List.map_id l]
  exact List.map_congr_left fun u _ => unf_fold u
theorem p_Encode (p : PlanD) (s : StateD) (w : WfP p) (h : InS s) (hs : Small s) (hn : NumsIn s) : snap_Encode (p, s, ()) = some (if PlanOkD p ∧ StateOkD p s then (codes ((numsS s).map foldI), 0, ()) else ([], 1, ())) := by
  have hlen : (numsS s).length ≤ 10000 := by
    rw [nums_len]
    have := hs.k
    have := hs.e
    have := hs.s
    omega
  unfold snap_Encode
  dsimp only
  rw [p_stateD p s w h, bnd_mk]
  by_cases hc : PlanOkD p ∧ StateOkD p s
  · rw [if_pos hc, if_pos hc, decide_eq_true rfl, Bool.not_true, cnd_f, p_Numbers s hs, bnd_mk, p_All _ hn hlen, bnd_mk]
  · rw [if_neg hc, if_neg hc]; rfl
theorem p_Decode (p : PlanD) (b : List Int) (w : WfP p) (hl : b.length ≤ 1000000) (hb : ∀ c ∈ b, 0 ≤ c ∧ c ≤ 255) :
    (¬ PlanOkD p → snap_Decode (p, b, ()) = some (zSt, 1, ())) ∧ (PlanOkD p → readG b.length b = none → snap_Decode (p, b, ()) = some (zSt, 2, ())) ∧
    (PlanOkD p → ∀ us, readG b.length b = some us → (us.length ≤ 200 → ∀ s, numsS s ≠ us.map unfI) → snap_Decode (p, b, ()) = some (zSt, 2, ())) ∧
    (PlanOkD p → ∀ us s, readG b.length b = some us → us.length ≤ 200 → numsS s = us.map unfI → snap_Decode (p, b, ()) = some (if StateOkD p s then (s, 0, ()) else (zSt, 1, ()))) := by
  have hr := p_Read b 200 hl hb
  unfold snap_Decode
  dsimp only
  rw [p_planD p w, bnd_mk]
  refine ⟨fun h => ?_, fun h e => ?_, fun h us e hn => ?_, fun h us s e hu hs => ?_⟩
  · rw [if_neg h]; rfl
  · rw [if_pos h, decide_eq_true rfl, Bool.not_true, cnd_f, hr, e]; rfl
  · rw [if_pos h, decide_eq_true rfl, Bool.not_true, cnd_f, hr, e]
    dsimp only
    by_cases hu : (us.length : Int) > 200
    · rw [if_pos hu]; rfl
    · rw [if_neg hu, bnd_mk]
      dsimp only
      rw [decide_eq_true rfl, Bool.not_true, cnd_f]
      obtain ⟨s, q, l', e1, h1⟩ := p_reads (us.map unfI) (by rw [List.length_map]; omega)
      rw [e1, bnd_mk]
      rcases h1 with ⟨_, h1⟩ | ⟨rfl, _⟩
      · exact (hn (by omega) s h1).elim
      · rfl
  · obtain ⟨_, hus⟩ := readG_some _ b us hb e
    have hin : NumsIn s := fun n hn => by
      rw [hs] at hn
      obtain ⟨u, hu1, rfl⟩ := List.mem_map.1 hn
      exact unf_range (hus u hu1)
    have hi := (nums_ins s hin (by rw [hs, List.length_map]; omega)).1
    rw [if_pos h, decide_eq_true rfl, Bool.not_true, cnd_f, hr, e]
    dsimp only
    rw [if_neg (by omega), bnd_mk]
    dsimp only
    rw [decide_eq_true rfl, Bool.not_true, cnd_f]
    obtain ⟨s', q, l', e1, h1⟩ := p_reads (us.map unfI) (by rw [List.length_map]; omega)
    rw [e1, bnd_mk]
    rcases h1 with ⟨rfl, h1⟩ | ⟨_, h1⟩
    · have := nums_inj s' s (h1.trans hs.symm)
      subst this
      dsimp only
      rw [cnd_f, p_stateD p s' w hi, bnd_mk]
      by_cases hc : StateOkD p s'
      · rw [if_pos ⟨h, hc⟩, if_pos hc]; rfl
      · rw [if_neg (fun k => hc k.2), if_neg hc]; rfl
    · exact (h1 s hs).elim
theorem p_zSame : regimenref37_Same (zSt, (0, 0, 0, (false, 0, 0, ()), ((false, 0, 0, ()), 0, 0, ()), [], [], (0, [], ()), ()), ()) = some true := by
  have h : InS zSt := ⟨⟨by decide, by decide⟩, by decide, by decide, by decide, fun x hx => by cases hx⟩
  exact (r_sameD zSt zSt h).trans (congrArg some (decide_eq_true rfl))
end Go.Proofs.YtggmomkohmcciacGreat.F
