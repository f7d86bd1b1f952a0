/- Numbers as bytes: codes, in plain Lean. -/
import Derived.Test.YtggmomkohmcciacGreatP0SnapDecodes
set_option linter.unusedVariables false
set_option linter.unusedSimpArgs false
namespace Go.Proofs.YtggmomkohmcciacGreat.F
open Go.VX
open Classical
def code (u : Nat) : List Int := if u < 128 then [(u : Int)] else ((u % 128 + 128 : Nat) : Int) :: code (u / 128)
termination_by u
decreasing_by omega
theorem code_lt {u : Nat} (h : u < 128) : code u = [(u : Int)] := by rw [code, if_pos h]
theorem code_ge {u : Nat} (h : ¬ u < 128) : code u = ((u % 128 + 128 : Nat) : Int) :: code (u / 128) := by rw [code, if_neg h]
theorem code_pos (u : Nat) : 0 < (code u).length := by
  by_cases h : u < 128
  · rw [code_lt h]; simp
  · rw [code_ge h]; simp
theorem code_len : ∀ (k u : Nat), u < 128 ^ (k + 1) → (code u).length ≤ k + 1
  | 0, u, h => by rw [code_lt (by simpa using h)]; simp
  | k + 1, u, h => by
    by_cases h1 : u < 128
    · rw [code_lt h1]; simp
    · rw [code_ge h1, List.length_cons]
      have := code_len k (u / 128) (by rw [Nat.div_lt_iff_lt_mul (by omega)]; rw [Nat.pow_succ] at h; exact h)
      omega
theorem code_byte : ∀ (N u : Nat), u ≤ N → ∀ c ∈ code u, 0 ≤ c ∧ c ≤ 255
  | N, u, hN, c, hc => by
    by_cases h1 : u < 128
    · rw [code_lt h1] at hc
      simp at hc
      omega
    · rw [code_ge h1] at hc
      rcases List.mem_cons.1 hc with rfl | h
      · omega
      · match N with
        | 0 => omega
        | N + 1 => exact code_byte N (u / 128) (by omega) c h
theorem code_free : ∀ (N u v : Nat), u ≤ N → ∀ s t : List Int, code u ++ s = code v ++ t → u = v ∧ s = t
  | N, u, v, hN, s, t, h => by
    by_cases h1 : u < 128
    · by_cases h2 : v < 128
      · rw [code_lt h1, code_lt h2, List.singleton_append, List.singleton_append] at h
        injection h with a b
        exact ⟨by omega, b⟩
      · rw [code_lt h1, code_ge h2, List.singleton_append, List.cons_append] at h
        injection h with a b
        omega
    · by_cases h2 : v < 128
      · rw [code_ge h1, code_lt h2, List.singleton_append, List.cons_append] at h
        injection h with a b
        omega
      · rw [code_ge h1, code_ge h2, List.cons_append, List.cons_append] at h
        injection h with a b
        match N with
        | 0 => omega
        | N + 1 =>
          have := code_free N (u / 128) (v / 128) (by omega) s t b
          exact ⟨by omega, this.2⟩
theorem pow_pos' (i : Nat) : 0 < 128 ^ i := Nat.pos_of_ne_zero (by simp)
def getG : Nat → Nat → List Int → Option (Nat × Nat)
  | _, _, [] => none
  | i, acc, c :: r => if i = 10 ∨ i = 9 ∧ c > 1 then none else if c ≥ 128 then getG (i + 1) (acc + (c - 128).toNat * 128 ^ i) r else if c = 0 ∧ 0 < i then none else some (acc + c.toNat * 128 ^ i, i + 1)
theorem pow9 : 128 ^ 9 * 2 = 18446744073709551616 := by decide
theorem getG_some : ∀ (r : List Int) (i acc U k : Nat), (∀ c ∈ r, 0 ≤ c ∧ c ≤ 255) → i ≤ 10 → acc < 128 ^ i → getG i acc r = some (U, k) →
    ∃ V s, U = acc + 128 ^ i * V ∧ (0 < i → 1 ≤ V) ∧ r = code V ++ s ∧ k = i + (code V).length ∧ U < 18446744073709551616
  | [], i, acc, U, k, hb, hi, ha, h => by simp [getG] at h
  | c :: r, i, acc, U, k, hb, hi, ha, h => by
    have hc := hb c (List.mem_cons_self ..)
    rw [getG] at h
    by_cases h1 : i = 10 ∨ i = 9 ∧ c > 1
    · rw [if_pos h1] at h; cases h
    rw [if_neg h1] at h
    have hi9 : i ≤ 9 := by omega
    by_cases h2 : c ≥ 128
    · rw [if_pos h2] at h
      have hp : 128 ^ (i + 1) = 128 ^ i * 128 := Nat.pow_succ ..
      have hm : (c - 128).toNat ≤ 127 := by omega
      have hm2 : (c - 128).toNat * 128 ^ i ≤ 127 * 128 ^ i := Nat.mul_le_mul_right _ hm
      obtain ⟨V, s, e1, e2, e3, e4, e5⟩ := getG_some r (i + 1) _ U k (fun x hx => hb x (List.mem_cons_of_mem _ hx)) (by omega) (by rw [hp]; omega) h
      refine ⟨(c - 128).toNat + 128 * V, s, ?_, fun _ => by have := e2 (by omega); omega, ?_, ?_, e5⟩
      · rw [e1, hp, Nat.mul_add, Nat.mul_comm (128 ^ i) (c - 128).toNat, Nat.mul_assoc, Nat.add_assoc]
      · have hV := e2 (by omega)
        rw [code_ge (by omega), List.cons_append, show ((c - 128).toNat + 128 * V) / 128 = V by omega, show (((c - 128).toNat + 128 * V) % 128 + 128 : Nat) = c.toNat by omega, ← e3]
        rw [Int.toNat_of_nonneg hc.1]
      · have hV := e2 (by omega)
        rw [code_ge (by omega), List.length_cons, show ((c - 128).toNat + 128 * V) / 128 = V by omega]
        omega
    · rw [if_neg h2] at h
      by_cases h3 : c = 0 ∧ 0 < i
      · rw [if_pos h3] at h; cases h
      · rw [if_neg h3] at h
        injection h with h
        injection h with hU hk
        refine ⟨c.toNat, r, by rw [← hU, Nat.mul_comm], fun h0 => by omega, ?_, ?_, ?_⟩
        · rw [code_lt (by omega), List.singleton_append, Int.toNat_of_nonneg hc.1]
        · rw [code_lt (by omega)]; exact hk.symm
        · rw [← hU]
          have h8 : i ≤ 8 → 128 ^ i * 128 ≤ 128 ^ 9 := fun h => by rw [← Nat.pow_succ]; exact Nat.pow_le_pow_right (by omega) (by omega)
          have hm : c.toNat * 128 ^ i ≤ 127 * 128 ^ i := Nat.mul_le_mul_right _ (by omega)
          by_cases h9 : i = 9
          · subst h9
            have hm1 : c.toNat * 128 ^ 9 ≤ 1 * 128 ^ 9 := Nat.mul_le_mul_right _ (by omega)
            have := pow9
            omega
          · have := h8 (by omega)
            have := pow9
            omega
theorem getG_none : ∀ (r : List Int) (i acc : Nat), (∀ c ∈ r, 0 ≤ c ∧ c ≤ 255) → i ≤ 10 → getG i acc r = none → ∀ V s, (0 < i → 1 ≤ V) → 128 ^ i * V < 18446744073709551616 → r ≠ code V ++ s
  | [], i, acc, hb, hi, h, V, s, hV, hl, e => by
    have := congrArg List.length e
    have := code_pos V
    simp at *
    omega
  | c :: r, i, acc, hb, hi, h, V, s, hV, hl, e => by
    have hc := hb c (List.mem_cons_self ..)
    have hi9 : i ≤ 9 := by
      by_cases h10 : i = 10
      · subst h10
        have := hV (by omega)
        have h1 : 128 ^ 10 * 1 ≤ 128 ^ 10 * V := Nat.mul_le_mul_left _ this
        have : 128 ^ 10 = 1180591620717411303424 := by decide
        omega
      · omega
    rw [getG] at h
    by_cases hs : V < 128
    · rw [code_lt hs, List.singleton_append] at e
      injection e with e1 e2
      rw [if_neg ?_, if_neg (by omega), if_neg (by omega)] at h
      · cases h
      · rintro (h1 | ⟨h1, h2⟩)
        · omega
        · subst h1
          have := pow9
          have : 128 ^ 9 * 2 ≤ 128 ^ 9 * V := Nat.mul_le_mul_left _ (by omega)
          omega
    · rw [code_ge hs, List.cons_append] at e
      injection e with e1 e2
      have hd : 128 ^ (i + 1) * (V / 128) ≤ 128 ^ i * V := by
        rw [Nat.pow_succ, Nat.mul_assoc]
        exact Nat.mul_le_mul_left _ (by omega)
      have hi8 : i ≤ 8 := by
        by_cases h9 : i = 9
        · subst h9
          have := pow9
          have : 128 ^ 9 * 128 ≤ 128 ^ 9 * V := Nat.mul_le_mul_left _ (by omega)
          omega
        · omega
      rw [if_neg (by omega), if_pos (by omega)] at h
      exact getG_none r (i + 1) _ (fun x hx => hb x (List.mem_cons_of_mem _ hx)) (by omega) h (V / 128) s (fun _ => by omega) (by omega) e2
theorem get_some {b : List Int} (hb : ∀ c ∈ b, 0 ≤ c ∧ c ≤ 255) {U k : Nat} (h : getG 0 0 b = some (U, k)) : ∃ s, b = code U ++ s ∧ k = (code U).length ∧ U < 18446744073709551616 := by
  obtain ⟨V, s, e1, _, e3, e4, e5⟩ := getG_some b 0 0 U k hb (by omega) (by simp) h
  have : U = V := by rw [e1]; simp
  subst this
  exact ⟨s, e3, by omega, e5⟩
theorem get_code {b : List Int} (hb : ∀ c ∈ b, 0 ≤ c ∧ c ≤ 255) {U : Nat} (hU : U < 18446744073709551616) {s : List Int} (h : b = code U ++ s) : getG 0 0 b = some (U, (code U).length) := by
  cases hg : getG 0 0 b with
  | none => exact (getG_none b 0 0 hb (by omega) hg U s (by omega) (by simpa using hU) h).elim
  | some p =>
    obtain ⟨V, k⟩ := p
    obtain ⟨t, e1, e2, e3⟩ := get_some hb hg
    have := (code_free U U V (Nat.le_refl _) s t (by rw [← h, ← e1])).1
    subst this
    rw [e2]
def readG : Nat → List Int → Option (List Nat)
  | _, [] => some []
  | 0, _ :: _ => none
  | N + 1, c :: r => match getG 0 0 (c :: r) with
    | none => none
    | some (U, k) => match readG N ((c :: r).drop k) with
      | none => none
      | some l => some (U :: l)
def codes : List Nat → List Int
  | [] => []
  | u :: l => code u ++ codes l
theorem codes_app (l m : List Nat) : codes (l ++ m) = codes l ++ codes m := by
  induction l with
  | nil => rfl
  | cons u l ih => rw [List.cons_append, codes, codes, ih, List.append_assoc]
theorem codes_byte (l : List Nat) : ∀ c ∈ codes l, 0 ≤ c ∧ c ≤ 255 := by
  induction l with
  | nil => intro c hc; cases hc
  | cons u l ih =>
    intro c hc
    rcases List.mem_append.1 hc with h | h
    · exact code_byte u u (Nat.le_refl _) c h
    · exact ih c h
theorem readG_some : ∀ (N : Nat) (b : List Int) (l : List Nat), (∀ c ∈ b, 0 ≤ c ∧ c ≤ 255) → readG N b = some l → b = codes l ∧ ∀ u ∈ l, u < 18446744073709551616
  | N, [], l, hb, h => by
    rw [readG] at h
    injection h with h
    subst h
    exact ⟨rfl, fun u hu => by cases hu⟩
  | 0, c :: r, l, hb, h => by rw [readG] at h; cases h
  | N + 1, c :: r, l, hb, h => by
    rw [readG] at h
    cases hg : getG 0 0 (c :: r) with
    | none => rw [hg] at h; cases h
    | some p =>
      obtain ⟨U, k⟩ := p
      rw [hg] at h
      dsimp only at h
      cases hr : readG N ((c :: r).drop k) with
      | none => rw [hr] at h; cases h
      | some m =>
        rw [hr] at h
        injection h with h
        subst h
        obtain ⟨s, e1, e2, e3⟩ := get_some hb hg
        obtain ⟨f1, f2⟩ := readG_some N _ m (fun x hx => hb x (List.mem_of_mem_drop hx)) hr
        refine ⟨?_, fun u hu => ?_⟩
        · rw [codes, ← f1, e2]
          conv => lhs; rw [e1]
          rw [e1, List.drop_left]
        · rcases List.mem_cons.1 hu with rfl | hu
          · exact e3
          · exact f2 u hu
theorem readG_codes : ∀ (l : List Nat) (N : Nat), (codes l).length ≤ N → (∀ u ∈ l, u < 18446744073709551616) → readG N (codes l) = some l
  | [], N, hN, h => by rw [codes, readG]
  | u :: l, N, hN, h => by
    have hp := code_pos u
    rw [codes, List.length_append] at hN
    rw [codes]
    cases hc : code u ++ codes l with
    | nil => have := congrArg List.length hc; rw [List.length_append, List.length_nil] at this; omega
    | cons c r =>
      match N with
      | 0 => omega
      | N + 1 =>
        have hg := get_code (b := code u ++ codes l) (U := u) (s := codes l) (fun x hx => codes_byte (u :: l) x hx) (h u (List.mem_cons_self ..)) rfl
        rw [readG, ← hc, hg]
        dsimp only
        rw [List.drop_left, readG_codes l N (by omega) (fun v hv => h v (List.mem_cons_of_mem _ hv))]
def foldI (n : Int) : Nat := if 0 ≤ n then (2 * n).toNat else (-2 * n - 1).toNat
def unfI (u : Nat) : Int := if u % 2 = 0 then ((u / 2 : Nat) : Int) else -((u / 2 : Nat) : Int) - 1
theorem unf_fold (n : Int) : unfI (foldI n) = n := by
  unfold unfI foldI
  split <;> split <;> omega
theorem fold_unf (u : Nat) : foldI (unfI u) = u := by
  unfold unfI foldI
  split <;> split <;> omega
theorem fold_lt {n : Int} (h1 : -9223372036854775808 ≤ n) (h2 : n ≤ 9223372036854775807) : foldI n < 18446744073709551616 := by
  unfold foldI
  split <;> omega
theorem unf_range {u : Nat} (h : u < 18446744073709551616) : -9223372036854775808 ≤ unfI u ∧ unfI u ≤ 9223372036854775807 := by
  unfold unfI
  split <;> omega
end Go.Proofs.YtggmomkohmcciacGreat.F
