/- Schedules made flat: the plain example of the laws. -/
import Derived.Test.YtggmomkohmcciaaP25CFlatThen
set_option linter.unusedVariables false
set_option linter.unusedSimpArgs false
namespace Go.Proofs.Ytggmomkohmcciaa.F
open Go.VX
open Classical
abbrev exL : List NodD := [(8, 0, 0, 0, 0, (0, 2, ()), ()), (1, 3221225472, 0, 0, 0, (0, 0, ()), ())]
theorem exL_ok : FlatOk exL 0 := by
  have h1 : NodeOk (8, 0, 0, 0, 0, (0, 2, ()), ()) := by unfold NodeOk LenOkN; dsimp only; omega
  have h2 : NodeOk (1, 3221225472, 0, 0, 0, (0, 0, ()), ()) := by unfold NodeOk LenOkN; dsimp only; omega
  refine ⟨⟨⟨rfl, by simp⟩, fun i hi => ?_, ?_⟩, fun d hd => ?_, by omega, by omega⟩
  · have : i = 0 ∨ i = 1 := by simp at hi; omega
    rcases this with rfl | rfl
    · exact h1
    · exact h2
  · show dep [8, 1] ≤ 32
    have h := dep_le 2 [8, 1] (by simp)
    have : ([8, 1] : List Int).length = 2 := rfl
    omega
  · simp only [exL, List.mem_cons, List.not_mem_nil, or_false] at hd
    rcases hd with rfl | rfl
    · exact ⟨h1, fun h => by dsimp only at h; omega, fun h => by dsimp only at h; omega⟩
    · exact ⟨h2, fun _ => by unfold CurveOk; dsimp only; omega, fun h => by dsimp only at h; omega⟩
theorem exL_leaf (i n : Int) : AtS 0 [(1, 3221225472, 0, 0, 0, (0, 0, ()), ())] i n = 3221225472 := by
  rw [AtS]
  rfl
theorem exL_1 : AtS 0 exL 1 4 = 1610612736 := by
  unfold exL
  rw [AtS, if_neg (by decide), if_neg (by decide), if_pos rfl, if_pos (by decide), exL_leaf]
  rfl
theorem exL_2 : AtS 0 exL 2 4 = 3221225472 := by
  unfold exL
  rw [AtS, if_neg (by decide), if_neg (by decide), if_pos rfl, if_neg (by decide), exL_leaf]
theorem exL_of : flat_Of (exL, (5, 9, ()), 0, ()) = some ([(5, 7, 5, 3, (2, 0, 3221225472, 0, ()), 0, 0, ()), (7, 9, 7, 2, (1, 3221225472, 0, 0, ()), 0, 0, ())], 0, ()) := by
  have hs : segs_At ([(7, 9, 7, 2, (1, 3221225472, 0, 0, ()), 0, 0, ())], 7, ()) = some (3221225472, 0, ()) := by
    have hc : Chain [(7, 9, 7, 2, (1, 3221225472, 0, 0, ()), 0, 0, ())] 7 9 (fun _ => 3221225472) :=
      ⟨by unfold SegOk CurveOk; dsimp only; omega, rfl, fun step _ _ => rfl, rfl⟩
    exact ((chain_at _ 7 9 _ hc (by simp) (by simp) 7).1 (by omega) (by omega)).1
  have hm : flat_maker_make (((), 0, (5, 9, ()), ()), ((exL, 0, ()), ())) = some [(5, 7, 5, 3, (2, 0, 3221225472, 0, ()), 0, 0, ()), (7, 9, 7, 2, (1, 3221225472, 0, 0, ()), 0, 0, ())] := by
    unfold flat_maker_make
    refine rec_mono (F := flat_maker_make_r) (fun n x => (group_up n).2.1 x) (n := 4) ?_
    have e : flat_maker_make_r 4 (((), 0, (5, 9, ()), ()), ((exL, 0, ()), ())) = bnd (bnd (segs_At ([(7, 9, 7, 2, (1, 3221225472, 0, 0, ()), 0, 0, ())], 7, ())) fun r4 => bnd (flat_piece ((5, 7, ()), (2, 0, r4.1, 0, ()), 3, ())) fun r5 => cnd (decide ((7 : Int) = 9)) (some r5) (bnd (app 1759218604441 r5 [(7, 9, 7, 2, (1, 3221225472, 0, 0, ()), 0, 0, ())]) fun v6 => some v6)) fun r4 => some r4 := rfl
    rw [e, hs]
    rfl
  unfold flat_Of
  dsimp only
  rw [p_flatcheck exL 0 (by simp), if_pos exL_ok, bnd_mk, hm]
  rfl
theorem awake25 : regimenlaw25_awake () = some true := by
  have h1 := (p_At exL 1 4 0 exL_ok (by omega) (by omega) (by omega)).1
  have h2 := (p_At exL 2 4 0 exL_ok (by omega) (by omega) (by omega)).1
  rw [exL_1] at h1
  rw [exL_2] at h2
  unfold regimenlaw25_awake
  rw [show flat_At ([(8, 0, 0, 0, 0, (0, 2, ()), ()), (1, 3221225472, 0, 0, 0, (0, 0, ()), ())], 1, 4, 0, ()) = _ from h1, show flat_At ([(8, 0, 0, 0, 0, (0, 2, ()), ()), (1, 3221225472, 0, 0, 0, (0, 0, ()), ())], 2, 4, 0, ()) = _ from h2, show flat_Of ([(8, 0, 0, 0, 0, (0, 2, ()), ()), (1, 3221225472, 0, 0, 0, (0, 0, ()), ())], (5, 9, ()), 0, ()) = _ from exL_of]
  rfl
end Go.Proofs.Ytggmomkohmcciaa.F
