/- The law SnapEncodes, in plain Lean: any state's numbers and snapshot, of any plan; what is encoded is decoded. -/
import Derived.Test.YtggmomkohmcciacGreatVx3
import Derived.Test.YtggmomkohmcciacGreatP41ESnapEncodes
import Derived.Test.YtggmomkohmcciacGreatC41
set_option linter.unusedVariables false
set_option linter.unusedSimpArgs false
namespace Go.Proofs.YtggmomkohmcciacGreat.F
open Go.VX
open Classical
theorem pure_SnapEncodes (x : Ty.D (.tu T34 (.tu T44 .unit))) (h : Ty.wf (.tu T34 (.tu T44 .unit)) x) : regimenlaw41_SnapEncodes x = some true := by
  obtain ⟨p, s, _⟩ := x
  obtain ⟨hp, hs, _⟩ := h
  change PlanD at p
  change StateD at s
  have wp : WfP p := by
    obtain ⟨a0, a1, a2, a3, a4, sp, fz, tr, st, cu, ke, em, o1, o2, o3, sf, se, _⟩ := p
    obtain ⟨_, _, _, _, _, hsp, hfz, htr, _⟩ := hp
    exact ⟨hsp.1, hfz.1, htr.1, fun t ht => (htr.2 t ht).2.2.1.1⟩
  have hin : (s.2.2.2.2.2.1.length ≤ 30 ∧ s.2.2.2.2.2.2.1.length ≤ 30 ∧ s.2.2.2.2.2.2.2.1.2.1.length ≤ 30) → NumsIn s := by
    intro hl
    obtain ⟨n1, n2, n3, ⟨b1, b2, b3, _⟩, ⟨⟨c1, c2, c3, _⟩, c4, c5, _⟩, kk, em, ⟨n4, su, _⟩, _⟩ := s
    obtain ⟨i1, i2, i3, ⟨_, i5, i6, _⟩, ⟨⟨_, i8, i9, _⟩, i10, i11, _⟩, ik, ie, ⟨i12, is, _⟩, _⟩ := hs
    have ib : ∀ b, In64' (bitS b) := fun b => by cases b <;> exact ⟨by decide, by decide⟩
    have inat : ∀ n : Nat, n ≤ 30 → In64' (n : Int) := fun n h => ⟨by omega, by omega⟩
    have ifl : ∀ l : List KeptD, (∀ x ∈ l, In64' x.1 ∧ In64' x.2.1) → ∀ n ∈ flatK l, In64' n := by
      intro l
      induction l with
      | nil => intro _ n hn; cases hn
      | cons k r ih =>
        intro h n hn
        rw [flatK] at hn
        have hk := h k (List.mem_cons_self ..)
        rcases List.mem_cons.1 hn with rfl | hn
        · exact hk.1
        rcases List.mem_cons.1 hn with rfl | hn
        · exact hk.2
        exact ih (fun x hx => h x (List.mem_cons_of_mem _ hx)) n hn
    intro n hn
    simp only [numsS, tailS, List.mem_cons, List.mem_append] at hn
    rcases hn with h | h | h | h | h | h | h | h | h | h | h | h | h | h | h | h | h | h | h
    · rw [h]; exact ⟨by decide, by decide⟩
    · rw [h]; exact i1
    · rw [h]; exact i2
    · rw [h]; exact i3
    · rw [h]; exact ib _
    · rw [h]; exact i5
    · rw [h]; exact i6
    · rw [h]; exact ib _
    · rw [h]; exact i8
    · rw [h]; exact i9
    · rw [h]; exact i10
    · rw [h]; exact i11
    · rw [h]; exact inat _ hl.1
    · exact ifl kk (fun x hx => ⟨(ik.2 x hx).1, (ik.2 x hx).2.1⟩) n h
    · rw [h]; exact inat _ hl.2.1
    · exact ie.2 n h
    · rw [h]; exact i12
    · rw [h]; exact inat _ hl.2.2
    · exact is.2 n h
  unfold regimenlaw41_SnapEncodes
  dsimp only
  obtain ⟨q1, e1⟩ := lightD p
  rw [aw_regimenlaw41_awake, e1, light37]
  cases q1 with
  | false => rfl
  | true =>
  by_cases hl : s.2.2.2.2.2.1.length ≤ 30 ∧ s.2.2.2.2.2.2.1.length ≤ 30 ∧ s.2.2.2.2.2.2.2.1.2.1.length ≤ 30
  rotate_left
  · rw [decide_eq_false hl]; rfl
  rw [decide_eq_true hl]
  by_cases k1 : p.1 > 3000
  · rw [decide_eq_true k1]; rfl
  rw [decide_eq_false k1]
  have hn := hin hl
  obtain ⟨hi, hsm⟩ := nums_ins s hn (by rw [nums_len]; omega)
  have hnl : (numsS s).length ≤ 1000 := by rw [nums_len]; omega
  rw [p_Encode p s wp hi hsm hn, p_Numbers s hsm, r_Numbers s hsm, r_mayD p wp]
  simp only [bnd_mk, Bool.not_true, Bool.not_false, cnd_t, cnd_f, decide_true]
  rw [r_same01 _ _ (by omega), decide_eq_true rfl]
  simp only [bnd_mk, Bool.not_true, Bool.not_false, cnd_t, cnd_f, decide_true]
  by_cases hP : PlanOkD p
  rotate_left
  · rw [decide_eq_false hP, if_neg (fun k => hP k.1)]; rfl
  rw [decide_eq_true hP, r_stateD p s hP hi]
  by_cases hS : StateOkD p s
  rotate_left
  · rw [decide_eq_false hS, if_neg (fun k => hS k.2)]; rfl
  rw [decide_eq_true hS, if_pos ⟨hP, hS⟩]
  simp only [bnd_mk, Bool.not_true, Bool.not_false, cnd_t, cnd_f, decide_true]
  have h16 := stateD_len hP hS
  have hcl := codes_len (numsS s) hn
  have hcb := codes_byte ((numsS s).map foldI)
  have hread : readG (codes ((numsS s).map foldI)).length (codes ((numsS s).map foldI)) = some ((numsS s).map foldI) := readG_codes _ _ (Nat.le_refl _) (fun u hu => by
    obtain ⟨n, hn1, rfl⟩ := List.mem_map.1 hu
    exact fold_lt (hn n hn1).1 (hn n hn1).2)
  have hd := (p_Decode p (codes ((numsS s).map foldI)) wp (by omega) hcb).2.2.2 hP _ s hread (by rw [List.length_map, nums_len]; omega) (unf_map _).symm
  rw [if_pos hS] at hd
  rw [hd, r_Bytes s hsm hn]
  simp only [bnd_mk, Bool.not_true, Bool.not_false, cnd_t, cnd_f, decide_true]
  rw [same40 _ _ (by omega), decide_eq_true rfl, r_sameD s s hi, decide_eq_true rfl]
  rfl
end Go.Proofs.YtggmomkohmcciacGreat.F
