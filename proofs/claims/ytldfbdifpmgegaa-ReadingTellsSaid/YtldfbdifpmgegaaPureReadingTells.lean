/- The law ReadingTells, in plain Lean: any place's reading, which ones are missing, and whether inputs are the same. -/
import Derived.Test.YtldfbdifpmgegaaVx3
import Derived.Test.YtldfbdifpmgegaaFReadingTells
set_option linter.unusedVariables false
set_option linter.unusedSimpArgs false
namespace Go.Proofs.Ytldfbdifpmgegaa.F
open Go.VX

theorem len_int {α : Type} (a b : List α) : decide ((a.length : Int) = (b.length : Int)) = decide (a.length = b.length) := by
  rw [decide_eq_decide]; omega

theorem equal_R (a b : List (Bool × Int × Unit)) (hl : a.length ≤ 9223372036854775807) : ∃ q, slices_Equal_regimen_api_Reading_regimen_api_Reading (a, b, ()) = some q ∧ (q = true ↔ a = b) := by
  unfold slices_Equal_regimen_api_Reading_regimen_api_Reading
  by_cases h : a.length = b.length
  · rcases eq_loop (eqT (.pr .bool (.pr (.int .i64) .unit))) (eqT_iff _ rfl) a b h hl false (fun _ => some true) with ⟨h1, h2⟩ | ⟨h1, h2⟩
    · refine ⟨true, ?_, by simp [h1]⟩
      dsimp only
      rw [len_int, decide_eq_true h]
      exact h2
    · refine ⟨false, ?_, by simp [h1]⟩
      dsimp only
      rw [len_int, decide_eq_true h]
      exact h2
  · refine ⟨false, ?_, by simp; intro e; exact h (by rw [e])⟩
    dsimp only
    rw [len_int, decide_eq_false h]
    rfl
theorem equal_I (a b : List Int) (hl : a.length ≤ 9223372036854775807) : ∃ q, slices_Equal_int_int (a, b, ()) = some q ∧ (q = true ↔ a = b) := by
  unfold slices_Equal_int_int
  by_cases h : a.length = b.length
  · rcases eq_loop (fun x y : Int => decide (x = y)) (fun x y => by simp) a b h hl false (fun _ => some true) with ⟨h1, h2⟩ | ⟨h1, h2⟩
    · refine ⟨true, ?_, by simp [h1]⟩
      dsimp only
      rw [len_int, decide_eq_true h]
      exact h2
    · refine ⟨false, ?_, by simp [h1]⟩
      dsimp only
      rw [len_int, decide_eq_true h]
      exact h2
  · refine ⟨false, ?_, by simp; intro e; exact h (by rw [e])⟩
    dsimp only
    rw [len_int, decide_eq_false h]
    rfl
theorem equal_01 (a b : List Int) (hl : a.length ≤ 9223372036854775807) : ∃ q, regimenref01_Same (a, b, ()) = some q ∧ (q = true ↔ a = b) := equal_I a b hl

abbrev InD := List (Bool × Int × Unit) × List Int × Unit
theorem same_p (X Y : InD) (h1 : X.1.length ≤ 60) (h2 : X.2.1.length ≤ 60) : ∃ q, reading_Same (X, Y, ()) = some q ∧ (q = true ↔ X.1 = Y.1 ∧ X.2.1 = Y.2.1) := by
  obtain ⟨q1, e1, f1⟩ := equal_R X.1 Y.1 (by omega)
  obtain ⟨q2, e2, f2⟩ := equal_I X.2.1 Y.2.1 (by omega)
  unfold reading_Same
  dsimp only
  rw [e1, bnd_mk]
  cases q1 with
  | true => exact ⟨q2, by rw [cnd_t, e2]; rfl, by rw [f2]; simp at f1; simp [f1]⟩
  | false => exact ⟨false, rfl, by simp at f1; simp [f1]⟩
theorem same_r (X Y : InD) (h1 : X.1.length ≤ 60) (h2 : X.2.1.length ≤ 60) : ∃ q, regimenref35_Same (X, Y, ()) = some q ∧ (q = true ↔ X.1 = Y.1 ∧ X.2.1 = Y.2.1) := by
  obtain ⟨q2, e2, f2⟩ := equal_01 X.2.1 Y.2.1 (by omega)
  unfold regimenref35_Same
  dsimp only
  by_cases h : X.1.length = Y.1.length
  · rw [len_int, decide_eq_true h]
    rcases eq_loop (eqT (.pr .bool (.pr (.int .i64) .unit))) (eqT_iff _ rfl) X.1 Y.1 h (by omega) false (fun _ => bnd (regimenref01_Same (X.2.1, Y.2.1, ())) fun r5 => some r5) with ⟨g1, g2⟩ | ⟨g1, g2⟩
    · refine ⟨q2, ?_, by rw [f2]; simp [g1]⟩
      refine Eq.trans g2 ?_
      rw [e2]; rfl
    · exact ⟨false, g2, by simp [g1]⟩
  · refine ⟨false, by rw [len_int, decide_eq_false h]; rfl, ?_⟩
    simp
    intro e
    exact (h (by rw [e])).elim

/-- The places that have no reading. -/
def miss : List (Bool × Int × Unit) → Int → List Int
  | [], _ => []
  | r :: l, i => if r.1 then miss l (i + 1) else i :: miss l (i + 1)
theorem drop_at {α : Type} {l : List α} {i : Nat} (h : i < l.length) : l.drop i = l[i] :: l.drop (i + 1) := List.drop_eq_getElem_cons h

theorem missing (X : InD) (h : X.1.length ≤ 60) : reading_Missing (X, ()) = some (miss X.1 0) := by
  unfold reading_Missing
  dsimp only
  obtain ⟨r, h1, h2⟩ := loop_rule (f := fun (s2 : List (Int) × Int × Unit) => cnd (decide (s2.2.1 < (X.1.length : Int))) (bnd (ati X.1 s2.2.1) fun v3 => bnd (cnd (!v3.1) (bnd (app 17592186044416 s2.1 [s2.2.1]) fun v5 => some (v5, ())) (some (s2.1, ()))) fun j4 => inlE (j4.1, wr .i64 (s2.2.1 + 1), ())) (inrE (some (s2.1, ()))))
    (fun s => 0 ≤ s.2.1 ∧ s.2.1 ≤ X.1.length ∧ s.1.length ≤ s.2.1.toNat ∧ s.1 ++ miss (X.1.drop s.2.1.toNat) s.2.1 = miss X.1 0) (fun s => X.1.length - s.2.1.toNat) (fun r => r.1 = miss X.1 0) (fun s ⟨i0, i1, i2, i3⟩ => by
      obtain ⟨acc, i, _⟩ := s
      dsimp only at *
      by_cases hlt : i < X.1.length
      · obtain ⟨ha, e1⟩ := ati_at i0 hlt
        have hw : wr .i64 (i + 1) = i + 1 := wr_id (by omega) (by omega)
        have hn : (i + 1).toNat = i.toNat + 1 := by omega
        rw [decide_eq_true hlt, cnd_t, e1, bnd_mk, hw]
        rw [drop_at ha, miss] at i3
        left
        cases hq : (X.1[i.toNat]).1 with
        | true =>
          rw [hq, if_pos rfl] at i3
          refine ⟨(acc, i + 1, ()), rfl, ⟨by dsimp only; omega, by dsimp only; omega, by dsimp only; omega, ?_⟩, by dsimp only; omega⟩
          dsimp only; rw [hn]; exact i3
        | false =>
          rw [hq, if_neg (by simp)] at i3
          refine ⟨(acc ++ [i], i + 1, ()), ?_, ⟨by dsimp only; omega, by dsimp only; omega, by dsimp only; simp; omega, ?_⟩, by dsimp only; omega⟩
          · rw [Bool.not_false, cnd_t, app_ok (by simp; omega)]; rfl
          · dsimp only; rw [hn, List.append_assoc]; exact i3
      · right
        rw [decide_eq_false hlt, cnd_f]
        refine ⟨(acc, ()), rfl, ?_⟩
        have : X.1.drop i.toNat = [] := List.drop_of_length_le (by omega)
        rw [this, miss, List.append_nil] at i3
        exact i3) ([], 0, ()) ⟨Int.le_refl _, by simp, by simp, by simp⟩
  rw [h1, bnd_mk, h2]

theorem awake : regimenlaw35_awake () = some true := by
  unfold regimenlaw35_awake
  have e1 : reading_Of (([(false, 0, ()), (true, 7, ())], [], ()), 1, ()) = some (7, true, ()) := rfl
  rw [e1, bnd_mk, missing _ (by simp), bnd_mk]
  obtain ⟨q, e2, f2⟩ := same_p ([(false, 0, ()), (true, 7, ())], [], ()) ([(false, 0, ()), (true, 7, ())], [], ()) (by simp) (by simp)
  have hq : q = true := f2.2 ⟨rfl, rfl⟩
  subst hq
  have e3 : reading_Check ((0, 0, 0, 0, 0, [], [], [], (false, [], false, 0, 0, false, ()), (false, [], false, 0, 0, 0, 0, 0, ()), (false, [], false, 0, ()), (false, 0, ()), 0, 0, 0, 0, 0, ()), ([(false, 0, ()), (true, 7, ())], [], ()), ()) = some 1 := rfl
  have e4 : miss [(false, 0, ()), (true, 7, ())] 0 = [0] := rfl
  rw [e4]
  have e5 : ati [(0 : Int)] 0 = some 0 := rfl
  rw [e2, e3, e5]
  rfl

theorem of_sp (X : InD) (k : Int) : (0 ≤ k ∧ k < X.1.length ∧ ∃ v, ati X.1 k = some v ∧ v.1 = true ∧ reading_Of (X, k, ()) = some (v.2.1, true, ())) ∨ (reading_Of (X, k, ()) = some (0, false, ()) ∧ (0 ≤ k → k < X.1.length → ∃ v, ati X.1 k = some v ∧ v.1 = false)) := by
  unfold reading_Of
  dsimp only
  by_cases h0 : k < 0
  · right
    refine ⟨by rw [decide_eq_true h0]; rfl, fun h1 => ?_⟩
    omega
  · by_cases h1 : k ≥ X.1.length
    · right
      refine ⟨by rw [decide_eq_false h0, decide_eq_true h1]; rfl, fun _ h2 => ?_⟩
      omega
    · obtain ⟨ha, e1⟩ := ati_at (l := X.1) (i := k) (by omega) (by omega)
      rw [decide_eq_false h0, decide_eq_false h1, e1]
      cases hq : (X.1[k.toNat]).1 with
      | true =>
        left
        exact ⟨by omega, by omega, _, rfl, hq, by simp [hq, bnd_mk, cnd]⟩
      | false =>
        right
        exact ⟨by simp [hq, bnd_mk, cnd], fun _ _ => ⟨_, rfl, hq⟩⟩

theorem miss_le : ∀ (l : List (Bool × Int × Unit)) (i : Int), (miss l i).length ≤ l.length
  | [], _ => by simp [miss]
  | r :: l, i => by
    rw [miss]
    split
    · have := miss_le l (i + 1); simp; omega
    · have := miss_le l (i + 1); simp; omega

theorem last (X : InD) (h : X.1.length ≤ 60) : bndS (loopP (fun (s19 : Int × Int × Unit) => cnd (decide (s19.2.1 < (X.1.length : Int))) (bndS (bnd (ati X.1 s19.2.1) fun v21 => cnd v21.1 (inlE (s19.1, ())) (bnd (cnd (!(decide (s19.1 ≥ ((miss X.1 0).length : Int)))) (bnd (ati (miss X.1 0) s19.1) fun v22 => some (!decide (v22 = s19.2.1))) (some true)) fun j23 => cnd j23 (inrE (inrE (inrE (some false)))) (inlE (wr .i64 (s19.1 + 1), ())))) fun j20 => inlE (j20.1, wr .i64 (s19.2.1 + 1), ())) (inrE (inlE (s19.1, ())))) (0, 0, ())) (fun j18 => bnd (cnd (decide (j18.1 = ((miss X.1 0).length : Int))) (some true) (some false)) fun j25 => some j25) = some true := by
  obtain ⟨r, h1, h2⟩ := loop_rule (f := fun (s19 : Int × Int × Unit) => cnd (decide (s19.2.1 < (X.1.length : Int))) (bndS (bnd (ati X.1 s19.2.1) fun v21 => cnd v21.1 (inlE (s19.1, ())) (bnd (cnd (!(decide (s19.1 ≥ ((miss X.1 0).length : Int)))) (bnd (ati (miss X.1 0) s19.1) fun v22 => some (!decide (v22 = s19.2.1))) (some true)) fun j23 => cnd j23 (inrE (inrE (inrE (some false)))) (inlE (wr .i64 (s19.1 + 1), ())))) fun j20 => inlE (j20.1, wr .i64 (s19.2.1 + 1), ())) (inrE (inlE (s19.1, ()) : Option ((Int × Unit) ⊕ Bool))))
    (fun s => 0 ≤ s.2.1 ∧ s.2.1 ≤ X.1.length ∧ 0 ≤ s.1 ∧ s.1 ≤ (miss X.1 0).length ∧ (miss X.1 0).drop s.1.toNat = miss (X.1.drop s.2.1.toNat) s.2.1) (fun s => X.1.length - s.2.1.toNat) (fun r => r = .inl (((miss X.1 0).length : Int), ())) (fun s ⟨i0, i1, i2, i3, i4⟩ => by
      obtain ⟨k, i, _⟩ := s
      dsimp only at *
      by_cases hlt : i < X.1.length
      · obtain ⟨ha, e1⟩ := ati_at i0 hlt
        have hw : wr .i64 (i + 1) = i + 1 := wr_id (by omega) (by omega)
        have hn : (i + 1).toNat = i.toNat + 1 := by omega
        rw [decide_eq_true hlt, cnd_t, e1, bnd_mk, hw]
        rw [drop_at ha, miss] at i4
        left
        cases hq : (X.1[i.toNat]).1 with
        | true =>
          rw [hq, if_pos rfl] at i4
          refine ⟨(k, i + 1, ()), rfl, ⟨by dsimp only; omega, by dsimp only; omega, by dsimp only; omega, by dsimp only; omega, ?_⟩, by dsimp only; omega⟩
          dsimp only; rw [hn]; exact i4
        | false =>
          rw [hq, if_neg (by simp)] at i4
          have hm := miss_le X.1 0
          have hk : k.toNat < (miss X.1 0).length := by
            have := congrArg List.length i4
            simp at this
            omega
          rw [drop_at hk] at i4
          have h5 : (miss X.1 0)[k.toNat] = i := (List.cons.inj i4).1
          have h6 := (List.cons.inj i4).2
          have hw2 : wr .i64 (k + 1) = k + 1 := wr_id (by omega) (by omega)
          have hkn : (k + 1).toNat = k.toNat + 1 := by omega
          obtain ⟨_, e2⟩ := ati_at (l := miss X.1 0) i2 (by omega)
          refine ⟨(k + 1, i + 1, ()), ?_, ⟨by dsimp only; omega, by dsimp only; omega, by dsimp only; omega, by dsimp only; omega, ?_⟩, by dsimp only; omega⟩
          · rw [cnd_f, decide_eq_false (by omega), e2, h5, bnd_mk, decide_eq_true rfl, hw2]; rfl
          · dsimp only; rw [hkn, hn]; exact h6
      · right
        rw [decide_eq_false hlt, cnd_f]
        refine ⟨.inl (k, ()), rfl, ?_⟩
        have : X.1.drop i.toNat = [] := List.drop_of_length_le (by omega)
        rw [this, miss] at i4
        have := congrArg List.length i4
        simp at this
        have : k = (miss X.1 0).length := by omega
        rw [this]) (0, 0, ()) ⟨Int.le_refl _, by simp, Int.le_refl _, by simp, rfl⟩
  rw [h1, h2]
  rw [bndS_l]
  dsimp only
  rw [decide_eq_true rfl]
  rfl

theorem pure_ReadingTells (x : Ty.D (.tu T55 (.tu T55 (.tu (.int .i64) .unit)))) (h : Ty.wf (.tu T55 (.tu T55 (.tu (.int .i64) .unit))) x) : regimenlaw35_ReadingTells x = some true := by
  obtain ⟨X, Y, k, _⟩ := x
  change InD at X Y
  have ea : bnd (regimenlaw35_awake ()) (fun r4 => some r4) = some true := by rw [awake]; rfl
  unfold regimenlaw35_ReadingTells
  dsimp only
  rw [ea]
  by_cases a1 : (X.1.length : Int) > 60
  · rw [decide_eq_true a1]; rfl
  rw [decide_eq_false a1]
  by_cases a2 : (X.2.1.length : Int) > 60
  · rw [decide_eq_true a2]; rfl
  rw [decide_eq_false a2]
  by_cases a3 : (Y.1.length : Int) > 60
  · rw [decide_eq_true a3]; rfl
  rw [decide_eq_false a3]
  by_cases a4 : (Y.2.1.length : Int) > 60
  · rw [decide_eq_true a4]; rfl
  rw [decide_eq_false a4]
  obtain ⟨q1, s1, t1⟩ := same_p X Y (by omega) (by omega)
  obtain ⟨q2, s2, t2⟩ := same_r X Y (by omega) (by omega)
  have hqq : q1 = q2 := by
    rw [Bool.eq_iff_iff, t1, t2]
  subst hqq
  rw [s1, s2, missing X (by omega)]
  have hL := last X (by omega)
  simp only [bnd_mk, cnd_f, cnd_t, Bool.not_false]
  generalize hT : bndS (loopP (fun (s19 : Int × Int × Unit) => cnd (decide (s19.2.1 < (X.1.length : Int))) _ _) _) _ = tl
  rw [show tl = some true from hT.symm.trans hL]
  have hE : ∀ b : Bool, eqT .bool b b = true := fun b => (eqT_iff .bool rfl b b).2 rfl
  rcases of_sp X k with ⟨k0, k1, v, e1, e2, e3⟩ | ⟨e3, e4⟩
  · rw [e3, bnd_mk, decide_eq_true (by omega : k ≥ 0), decide_eq_true k1, cnd_t, bnd_mk, cnd_t, e1, bnd_mk, bnd_mk, e2]
    dsimp only
    rw [hE, hE]
    simp [bnd_mk, cnd_t, cnd_f]
  · rw [e3, bnd_mk]
    dsimp only
    by_cases k0 : k ≥ 0
    · by_cases k1 : k < X.1.length
      · obtain ⟨v, e1, e2⟩ := e4 k0 k1
        rw [decide_eq_true k0, decide_eq_true k1, cnd_t, bnd_mk, cnd_t, e1, bnd_mk, bnd_mk, e2]
        rw [hE, hE]
        simp [bnd_mk, cnd_t, cnd_f]
      · rw [decide_eq_true k0, decide_eq_false k1, cnd_t, bnd_mk, cnd_f, bnd_mk]
        rw [hE, hE]
        simp [bnd_mk, cnd_t, cnd_f]
    · rw [decide_eq_false k0, cnd_f, bnd_mk, cnd_f, bnd_mk]
      rw [hE, hE]
      simp [bnd_mk, cnd_t, cnd_f]
end Go.Proofs.Ytldfbdifpmgegaa.F
