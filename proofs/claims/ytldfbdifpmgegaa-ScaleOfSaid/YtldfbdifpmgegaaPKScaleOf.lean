/- A recipe that is light: how many of everything it holds. -/
import Derived.Test.YtldfbdifpmgegaaPJScaleOf
set_option linter.unusedVariables false
set_option linter.unusedSimpArgs false
namespace Go.Proofs.Ytldfbdifpmgegaa.F
open Go.VX

abbrev NodeD := Int × Int × Int × Int × Int × (Int × Int × Unit) × Unit
abbrev SetD := List Int × Int × List NodeD × Unit
abbrev PhaseD := List Int × (Int × Int × Unit) × List (List Int) × List SetD × Unit
abbrev RecipeD := List Int × Int × Int × Int × List (List Int) × List (List Int) × Int × List PhaseD × (Bool × List Int × Bool × Int × Int × Bool × Unit) × (Bool × List Int × Bool × Int × Int × Int × Int × Int × Unit) × (Bool × List Int × Bool × Int × Unit) × (Bool × Int × Unit) × (Bool × (Int × Int × Unit) × Int × Unit) × Unit
abbrev zNode : NodeD := (0, 0, 0, 0, 0, (0, 0, ()), ())
abbrev zSet : SetD := ([], 0, [], ())
abbrev zPhase : PhaseD := ([], (0, 0, ()), [], [], ())
def SetLight (s : SetD) : Prop := s.1.length ≤ 40 ∧ s.2.2.1.length ≤ 60
def PhLight (p : PhaseD) : Prop := p.1.length ≤ 40 ∧ p.2.2.1.length ≤ 12 ∧ p.2.2.2.1.length ≤ 30 ∧ (∀ j, j < p.2.2.2.1.length → SetLight (nth zSet p.2.2.2.1 j)) ∧ ∀ j, j < p.2.2.1.length → (nth [] p.2.2.1 j).length ≤ 40
def LightP (r : RecipeD) : Prop := r.1.length ≤ 100 ∧ r.2.2.2.2.1.length ≤ 12 ∧ r.2.2.2.2.2.1.length ≤ 12 ∧ r.2.2.2.2.2.2.2.1.length ≤ 20 ∧ (∀ j, j < r.2.2.2.2.2.2.2.1.length → PhLight (nth zPhase r.2.2.2.2.2.2.2.1 j)) ∧ (∀ j, j < r.2.2.2.2.1.length → (nth [] r.2.2.2.2.1 j).length ≤ 40) ∧ ∀ j, j < r.2.2.2.2.2.1.length → (nth [] r.2.2.2.2.2.1 j).length ≤ 40

/-- A loop that asks something of every place: what it comes to, be it so or not. -/
theorem ask_loop {ρ : Type} (n : Nat) (p : Nat → Prop) (f : Int × Unit → Option ((Int × Unit) ⊕ ρ)) (r0 r1 : ρ)
    (h1 : ∀ i : Nat, i < n → p i → f ((i : Int), ()) = some (.inl ((i : Int) + 1, ()))) (h1' : ∀ i : Nat, i < n → ¬ p i → f ((i : Int), ()) = some (.inr r0))
    (h2 : f ((n : Int), ()) = some (.inr r1)) : (loopP f (0, ()) = some r1 ∧ ∀ j, j < n → p j) ∨ (loopP f (0, ()) = some r0 ∧ ¬ ∀ j, j < n → p j) := by
  haveI : ∀ i, Decidable (p i) := fun _ => Classical.propDecidable _
  haveI : Decidable (∀ j, j < n → p j) := Classical.propDecidable _
  have e := all_loop n p f r0 r1 (fun i hi _ => by
    by_cases hp : p i
    · rw [if_pos hp]; exact h1 i hi hp
    · rw [if_neg hp]; exact h1' i hi hp) (fun _ => h2)
  by_cases h : ∀ j, j < n → p j
  · rw [if_pos h] at e; exact .inl ⟨e, h⟩
  · rw [if_neg h] at e; exact .inr ⟨e, h⟩

theorem light18 (r : RecipeD) : ∃ q, regimenref18_Light (r, ()) = some q ∧ (q = true → LightP r) := by
  unfold regimenref18_Light
  dsimp only
  by_cases k1 : (r.1.length : Int) > 100
  · rw [decide_eq_true k1]; exact ⟨false, rfl, fun h => (Bool.false_ne_true h).elim⟩
  rw [decide_eq_false k1]
  by_cases k2 : (r.2.2.2.2.1.length : Int) > 12
  · rw [decide_eq_true k2]; exact ⟨false, rfl, fun h => (Bool.false_ne_true h).elim⟩
  rw [decide_eq_false k2]
  by_cases k3 : (r.2.2.2.2.2.1.length : Int) > 12
  · rw [decide_eq_true k3]; exact ⟨false, rfl, fun h => (Bool.false_ne_true h).elim⟩
  rw [decide_eq_false k3]
  by_cases k4 : (r.2.2.2.2.2.2.2.1.length : Int) > 20
  · rw [decide_eq_true k4]; exact ⟨false, rfl, fun h => (Bool.false_ne_true h).elim⟩
  rw [decide_eq_false k4]
  simp only [bnd_mk, cnd_t, cnd_f, Bool.not_false]
  generalize decide (wr .i64 (wr .i64 ((r.2.2.2.2.2.2.2.2.1.2.1.length : Int) + (r.2.2.2.2.2.2.2.2.2.1.2.1.length : Int)) + (r.2.2.2.2.2.2.2.2.2.2.1.2.1.length : Int)) > 100) = b
  cases b with
  | true => exact ⟨false, rfl, fun h => (Bool.false_ne_true h).elim⟩
  | false =>
  rw [cnd_f]
  generalize hP : r.2.2.2.2.2.2.2.1 = P at *
  generalize hA : r.2.2.2.2.1 = A at *
  generalize hB : r.2.2.2.2.2.1 = B at *
  obtain ⟨o, e, h⟩ := loop_rule (ρ := (Int × Unit) ⊕ Bool) (f := (fun (s6 : Int × Int × Unit) => cnd (decide (s6.2.1 < (P.length : Int))) (bnd (ati P s6.2.1) fun v7 => bnd (cnd (!(decide ((v7.1.length : Int) > 40))) (some (decide ((v7.2.2.1.length : Int) > 12))) (some true)) fun j8 => bnd (cnd (!j8) (some (decide ((v7.2.2.2.1.length : Int) > 30))) (some true)) fun j9 => bnd (cnd (!j9) (some (decide (s6.1 > 60))) (some true)) fun j10 => cnd j10 (inrE (inrE (some false))) (bndS (loopP (fun (s12 : Int × Int × Unit) => bnd (cnd (decide (s12.2.1 < (v7.2.2.2.1.length : Int))) (some (decide (s12.1 ≤ 60))) (some false)) fun j13 => cnd j13 (bnd (ati v7.2.2.2.1 s12.2.1) fun v14 => bnd (cnd (!(decide ((v14.1.length : Int) > 40))) (bnd (ati v7.2.2.2.1 s12.2.1) fun v15 => some (decide ((v15.2.2.1.length : Int) > 60))) (some true)) fun j16 => cnd j16 (inrE (inrE (inrE (inrE (some false))))) (bnd (ati v7.2.2.2.1 s12.2.1) fun v17 => inlE (wr .i64 (s12.1 + (v17.2.2.1.length : Int)), wr .i64 (s12.2.1 + 1), ()))) (inrE (inlE (s12.1, ())))) (s6.1, 0, ())) fun j11 => bndS (loopP (fun (s19 : Int × Unit) => cnd (decide (s19.1 < (v7.2.2.1.length : Int))) (bnd (ati v7.2.2.1 s19.1) fun v20 => cnd (decide ((v20.length : Int) > 40)) (inrE (inrE (inrE (inrE (some false))))) (inlE (wr .i64 (s19.1 + 1), ()))) (inrE (inlE (())))) (0, ())) fun j18 => inlE (j11.1, wr .i64 (s6.2.1 + 1), ()))) (inrE (inlE (s6.1, ())))))
    (fun s => 0 ≤ s.2.1 ∧ s.2.1 ≤ P.length ∧ 0 ≤ s.1 ∧ s.1 ≤ 120 ∧ (s.1 ≤ 60 → ∀ j : Nat, (j : Int) < s.2.1 → PhLight (nth zPhase P j))) (fun s => P.length - s.2.1.toNat)
    (fun r => (∃ c, r = .inl (c, ()) ∧ (c ≤ 60 → ∀ j, j < P.length → PhLight (nth zPhase P j))) ∨ r = .inr false) (fun s ⟨i0, i1, i2, i3, i4⟩ => by
      obtain ⟨c, i, _⟩ := s
      dsimp only at *
      obtain ⟨k, rfl⟩ : ∃ k : Nat, i = k := ⟨i.toNat, by omega⟩
      by_cases hk : k < P.length
      · rw [lt_true hk, cnd_t, ati_d zPhase hk, bnd_mk]
        generalize hv : nth zPhase P k = v at *
        by_cases m1 : (v.1.length : Int) > 40
        · rw [decide_eq_true m1]; exact .inr ⟨.inr false, rfl, .inr rfl⟩
        by_cases m2 : (v.2.2.1.length : Int) > 12
        · rw [decide_eq_false m1, decide_eq_true m2]; exact .inr ⟨.inr false, rfl, .inr rfl⟩
        by_cases m3 : (v.2.2.2.1.length : Int) > 30
        · rw [decide_eq_false m1, decide_eq_false m2, decide_eq_true m3]; exact .inr ⟨.inr false, rfl, .inr rfl⟩
        by_cases m4 : c > 60
        · rw [decide_eq_false m1, decide_eq_false m2, decide_eq_false m3, decide_eq_true m4]; exact .inr ⟨.inr false, rfl, .inr rfl⟩
        rw [decide_eq_false m1, decide_eq_false m2, decide_eq_false m3, decide_eq_false m4]
        simp only [bnd_mk, cnd_t, cnd_f, Bool.not_false]
        obtain ⟨o, e, h⟩ := loop_rule (ρ := (Int × Unit) ⊕ ((Int × Int × Unit) ⊕ ((Int × Unit) ⊕ Bool))) (f := (fun (s12 : Int × Int × Unit) => bnd (cnd (decide (s12.2.1 < (v.2.2.2.1.length : Int))) (some (decide (s12.1 ≤ 60))) (some false)) fun j13 => cnd j13 (bnd (ati v.2.2.2.1 s12.2.1) fun v14 => bnd (cnd (!(decide ((v14.1.length : Int) > 40))) (bnd (ati v.2.2.2.1 s12.2.1) fun v15 => some (decide ((v15.2.2.1.length : Int) > 60))) (some true)) fun j16 => cnd j16 (inrE (inrE (inrE (inrE (some false))))) (bnd (ati v.2.2.2.1 s12.2.1) fun v17 => inlE (wr .i64 (s12.1 + (v17.2.2.1.length : Int)), wr .i64 (s12.2.1 + 1), ()))) (inrE (inlE (s12.1, ())))))
          (fun s => 0 ≤ s.2.1 ∧ s.2.1 ≤ v.2.2.2.1.length ∧ 0 ≤ s.1 ∧ s.1 ≤ 120 ∧ ∀ j : Nat, (j : Int) < s.2.1 → SetLight (nth zSet v.2.2.2.1 j)) (fun s => v.2.2.2.1.length - s.2.1.toNat)
          (fun r => (∃ c, r = .inl (c, ()) ∧ 0 ≤ c ∧ c ≤ 120 ∧ (c ≤ 60 → ∀ j, j < v.2.2.2.1.length → SetLight (nth zSet v.2.2.2.1 j))) ∨ r = .inr (.inr (.inr false))) (fun s ⟨i0, i1, i2, i3, i4⟩ => by
            obtain ⟨c, i, _⟩ := s
            dsimp only at *
            obtain ⟨k, rfl⟩ : ∃ k : Nat, i = k := ⟨i.toNat, by omega⟩
            by_cases hk : k < v.2.2.2.1.length
            · rw [lt_true hk, cnd_t, ati_d zSet hk]
              simp only [bnd_mk]
              by_cases hc : c ≤ 60
              · rw [decide_eq_true hc, cnd_t]
                generalize hu : nth zSet v.2.2.2.1 k = u at *
                by_cases n1 : (u.1.length : Int) > 40
                · rw [decide_eq_true n1]; exact .inr ⟨_, rfl, .inr rfl⟩
                by_cases n2 : (u.2.2.1.length : Int) > 60
                · rw [decide_eq_false n1, decide_eq_true n2]; exact .inr ⟨_, rfl, .inr rfl⟩
                rw [decide_eq_false n1, decide_eq_false n2, wr_id (by omega) (by omega), wr_id (by omega) (by omega)]
                refine .inl ⟨_, rfl, ⟨by dsimp only; omega, by dsimp only; omega, by dsimp only; omega, by dsimp only; omega, fun j hj => ?_⟩, by dsimp only; omega⟩
                dsimp only at hj
                by_cases hjk : j = k
                · subst hjk; rw [hu]; exact ⟨by omega, by omega⟩
                · exact i4 j (by omega)
              · rw [decide_eq_false hc, cnd_f]
                exact .inr ⟨_, rfl, .inl ⟨c, rfl, i2, i3, fun x => (hc x).elim⟩⟩
            · rw [decide_eq_false (by omega : ¬ (k : Int) < (v.2.2.2.1.length : Int))]
              exact .inr ⟨_, rfl, .inl ⟨c, rfl, i2, i3, fun _ j hj => i4 j (by omega)⟩⟩) (c, 0, ()) ⟨by simp, by simp, i2, by dsimp only; omega, fun j hj => by dsimp only at hj; omega⟩
        rw [e]
        rcases h with ⟨c2, rfl, h1, h2, h3⟩ | rfl
        · rw [bndS_l]
          rcases ask_loop (ρ := Unit ⊕ ((Int × Int × Unit) ⊕ ((Int × Unit) ⊕ Bool))) v.2.2.1.length (fun i => (nth [] v.2.2.1 i).length ≤ 40) (fun (s19 : Int × Unit) => cnd (decide (s19.1 < (v.2.2.1.length : Int))) (bnd (ati v.2.2.1 s19.1) fun v20 => cnd (decide ((v20.length : Int) > 40)) (inrE (inrE (inrE (inrE (some false))))) (inlE (wr .i64 (s19.1 + 1), ()))) (inrE (inlE (())))) (.inr (.inr (.inr false))) (.inl ()) (fun i hi hp => by
              dsimp only
              rw [lt_true hi, cnd_t, ati_d [] hi, bnd_mk, decide_eq_false (by omega), wr_succ hi (by omega)]; rfl) (fun i hi hp => by
              dsimp only
              rw [lt_true hi, cnd_t, ati_d [] hi, bnd_mk, decide_eq_true (by omega)]; rfl) (by dsimp only; rw [lt_false]; rfl) with ⟨e2, h4⟩ | ⟨e2, _⟩
          · rw [e2, bndS_l, wr_succ hk (by omega)]
            refine .inl ⟨_, rfl, ⟨by dsimp only; omega, by dsimp only; omega, h1, h2, fun hc j hj => ?_⟩, by dsimp only; omega⟩
            dsimp only at hc hj
            by_cases hjk : j = k
            · subst hjk; rw [hv]; exact ⟨by omega, by omega, by omega, h3 hc, h4⟩
            · exact i4 (by omega) j (by omega)
          · rw [e2]; exact .inr ⟨_, rfl, .inr rfl⟩
        · exact .inr ⟨_, rfl, .inr rfl⟩
      · have hkn : k = P.length := by omega
        subst hkn
        rw [lt_false]
        exact .inr ⟨_, rfl, .inl ⟨c, rfl, fun hc j hj => i4 hc j (by omega)⟩⟩) (0, 0, ()) ⟨by simp, by simp, by simp, by simp, fun _ j hj => by dsimp only at hj; omega⟩
  rw [e]
  rcases h with ⟨c, rfl, h⟩ | rfl
  · rw [bndS_l]
    rw [wr_id (x := (A.length : Int) + (B.length : Int)) (by omega) (by omega)]
    rcases ask_loop (ρ := Unit ⊕ Bool) (A.length + B.length) (fun i => (i < A.length → (nth [] A i).length ≤ 40) ∧ (A.length ≤ i → (nth [] B (i - A.length)).length ≤ 40)) (fun (s22 : Int × Unit) => cnd (decide (s22.1 < (A.length : Int) + (B.length : Int))) (bnd (cnd (decide (s22.1 < (A.length : Int))) (bnd (ati A s22.1) fun v23 => some (decide ((v23.length : Int) > 40))) (some false)) fun j24 => bnd (cnd (!j24) (bnd (cnd (decide (s22.1 ≥ (A.length : Int))) (bnd (ati B (wr .i64 (s22.1 - (A.length : Int)))) fun v25 => some (decide ((v25.length : Int) > 40))) (some false)) fun j26 => some j26) (some true)) fun j27 => cnd j27 (inrE (inrE (some false))) (inlE (wr .i64 (s22.1 + 1), ()))) (inrE (inlE (())))) (.inr false) (.inl ()) (fun i hi hp => by
        dsimp only
        rw [decide_eq_true (by omega : (i : Int) < (A.length : Int) + (B.length : Int)), wr_succ hi (by omega)]
        by_cases hiA : i < A.length
        · have := hp.1 hiA
          rw [lt_true hiA, ati_d [] hiA, decide_eq_false (by omega : ¬ (i : Int) ≥ (A.length : Int))]
          simp only [bnd_mk, cnd_t]
          rw [decide_eq_false (by omega)]; rfl
        · have := hp.2 (by omega)
          rw [decide_eq_false (by omega : ¬ (i : Int) < (A.length : Int)), decide_eq_true (by omega : (i : Int) ≥ (A.length : Int)), wr_id (by omega) (by omega), show (i : Int) - (A.length : Int) = ((i - A.length : Nat) : Int) by omega, ati_d [] (l := B) (i := i - A.length) (by omega)]
          simp only [bnd_mk, cnd_t, cnd_f, Bool.not_false]
          rw [decide_eq_false (by omega)]; rfl) (fun i hi hp => by
        dsimp only
        rw [decide_eq_true (by omega : (i : Int) < (A.length : Int) + (B.length : Int)), wr_succ hi (by omega)]
        by_cases hiA : i < A.length
        · have : ¬ (nth [] A i).length ≤ 40 := fun x => hp ⟨fun _ => x, fun y => by omega⟩
          rw [lt_true hiA, ati_d [] hiA]
          simp only [bnd_mk, cnd_t]
          rw [decide_eq_true (by omega)]; rfl
        · have : ¬ (nth [] B (i - A.length)).length ≤ 40 := fun x => hp ⟨fun y => by omega, fun _ => x⟩
          rw [decide_eq_false (by omega : ¬ (i : Int) < (A.length : Int)), decide_eq_true (by omega : (i : Int) ≥ (A.length : Int)), wr_id (by omega) (by omega), show (i : Int) - (A.length : Int) = ((i - A.length : Nat) : Int) by omega, ati_d [] (l := B) (i := i - A.length) (by omega)]
          simp only [bnd_mk, cnd_t, cnd_f, Bool.not_false]
          rw [decide_eq_true (by omega)]; rfl) (by
        dsimp only
        rw [decide_eq_false (by omega : ¬ ((A.length + B.length : Nat) : Int) < (A.length : Int) + (B.length : Int))]; rfl) with ⟨e2, h4⟩ | ⟨e2, _⟩
    · rw [e2, bndS_l]
      refine ⟨_, rfl, fun hc => ?_⟩
      have hc := of_decide_eq_true hc
      refine ⟨by omega, by rw [hA]; omega, by rw [hB]; omega, by rw [hP]; omega, ?_, ?_, ?_⟩
      · rw [hP]; exact h hc
      · rw [hA]; exact fun j hj => (h4 j (by omega)).1 hj
      · rw [hB]; exact fun j hj => by
          have := (h4 (A.length + j) (by omega)).2 (by omega)
          rw [show A.length + j - A.length = j by omega] at this
          exact this
    · rw [e2]; exact ⟨false, rfl, fun h => (Bool.false_ne_true h).elim⟩
  · exact ⟨false, rfl, fun h => (Bool.false_ne_true h).elim⟩
end Go.Proofs.Ytldfbdifpmgegaa.F
