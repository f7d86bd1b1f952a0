/- Bytes as numbers: what is read of any bytes. -/
import Derived.Test.YtggmomkohmcciacGreatP40BSnapDecodes
import Derived.Test.YtggmomkohmcciacGreatP0LSnapDecodes
set_option linter.unusedVariables false
set_option linter.unusedSimpArgs false
namespace Go.Proofs.YtggmomkohmcciacGreat.F
open Go.VX
open Classical
theorem same40 (a b : List Int) (hl : a.length ≤ 9223372036854775807) : regimenref40_Same (a, b, ()) = some (decide (a = b)) := by
  unfold regimenref40_Same
  by_cases h : a.length = b.length
  · rcases eq_loop (fun x y : Int => decide (x = y)) (fun x y => by simp) a b h hl false (fun _ => some true) with ⟨h1, h2⟩ | ⟨h1, h2⟩
    · dsimp only
      rw [decide_eq_true (show (a.length : Int) = (b.length : Int) by omega), decide_eq_true h1]
      exact h2
    · dsimp only
      rw [decide_eq_true (show (a.length : Int) = (b.length : Int) by omega), decide_eq_false h1]
      exact h2
  · dsimp only
    rw [decide_eq_false (show ¬ (a.length : Int) = (b.length : Int) by omega), decide_eq_false (fun e => h (by rw [e]))]
    rfl
def valL : List Int → Nat
  | [] => 0
  | c :: r => (c % 128).toNat + 128 * valL r
theorem valL_code : ∀ (N u : Nat), u ≤ N → valL (code u) = u
  | N, u, hN => by
    by_cases h : u < 128
    · rw [code_lt h, valL, valL]; omega
    · match N with
      | 0 => omega
      | N + 1 =>
        rw [code_ge h, valL, valL_code N (u / 128) (by omega)]
        omega
theorem take_drop_nth (b : List Int) {n j : Nat} (hj : j < n) (hn : n ≤ b.length) : (b.take n).drop j = nth 0 b j :: (b.take n).drop (j + 1) := by
  rw [drop_nth0 _ (by rw [List.length_take]; omega)]
  congr 1
  simp [nth, List.getD, List.getElem?_take, hj]
theorem val_loop (b : List Int) (n : Nat) (hn : n ≤ b.length) (hl : b.length ≤ 1000000) (hb : ∀ c ∈ b, 0 ≤ c ∧ c ≤ 255) (f : Int × Int × Unit → Option ((Int × Int × Unit) ⊕ (Int × Unit)))
    (hf : f = fun (s5 : Int × Int × Unit) => cnd (decide (s5.2.1 ≥ 0)) (bnd (ati b s5.2.1) fun v6 => inlE (wr .u64 ((wr .u64 (128 * s5.1)) + (wr .u64 (Int.tmod v6 128))), wr .i64 (s5.2.1 - 1), ())) (inrE (some (s5.1, ())))) :
    ∀ k : Nat, k ≤ n → loopP f (0, (n : Int) - 1, ()) = loopP f ((((valL ((b.take n).drop (n - k))) % 18446744073709551616 : Nat) : Int), (n : Int) - 1 - k, ())
  | 0, h => by
    rw [List.drop_eq_nil_of_le (by rw [List.length_take]; omega), valL]
    simp
  | k + 1, h => by
    rw [val_loop b n hn hl hb f hf k (by omega)]
    have hi : n - (k + 1) < b.length := by omega
    have hc := hb _ (nth_mem (z := 0) hi)
    have hd := take_drop_nth b (n := n) (j := n - (k + 1)) (by omega) hn
    rw [show n - (k + 1) + 1 = n - k by omega] at hd
    refine loopP_step ?_
    rw [hf]
    dsimp only
    rw [hd, valL, decide_eq_true (by omega : (n : Int) - 1 - k ≥ 0), cnd_t, show (n : Int) - 1 - k = ((n - (k + 1) : Nat) : Int) by omega, ati_d 0 hi, bnd_mk, Int.tmod_eq_emod_of_nonneg hc.1, wr_id (x := ((n - (k + 1) : Nat) : Int) - 1) (by omega) (by omega)]
    simp only [wru_mod]
    generalize valL ((b.take n).drop (n - k)) = V at *
    generalize nth 0 b (n - (k + 1)) = c at *
    rw [show (128 * ((V % 18446744073709551616 : Nat) : Int) % 18446744073709551616 + c % 128 % 18446744073709551616) % 18446744073709551616 = ((((c % 128).toNat + 128 * V) % 18446744073709551616 : Nat) : Int) by omega, show ((n - (k + 1) : Nat) : Int) - 1 = (n : Int) - 1 - ((k + 1 : Nat) : Int) by omega]
    rfl
theorem val_take (b : List Int) (n : Nat) (hn : n ≤ b.length) (hl : b.length ≤ 1000000) (hb : ∀ c ∈ b, 0 ≤ c ∧ c ≤ 255) : 
    loopP (fun (s5 : Int × Int × Unit) => cnd (decide (s5.2.1 ≥ 0)) (bnd (ati b s5.2.1) fun v6 => inlE (wr .u64 ((wr .u64 (128 * s5.1)) + (wr .u64 (Int.tmod v6 128))), wr .i64 (s5.2.1 - 1), ())) (inrE (some (s5.1, ())))) (0, (n : Int) - 1, ()) = some (((valL (b.take n) % 18446744073709551616 : Nat) : Int), ()) := by
  rw [val_loop b n hn hl hb _ rfl n (Nat.le_refl _), Nat.sub_self, List.drop_zero, loopP_done (r := (((valL (b.take n) % 18446744073709551616 : Nat) : Int), ())) (by
    dsimp only
    rw [decide_eq_false (by omega : ¬ (n : Int) - 1 - n ≥ 0)]
    rfl)]
def uOf (b : List Int) (i : Int) : Nat := valL (b.take i.toNat) % 18446744073709551616
theorem uOf_lt (b : List Int) (i : Int) : uOf b i < 18446744073709551616 := Nat.mod_lt _ (by omega)
theorem r_Get (b : List Int) (hl : b.length ≤ 1000000) (hb : ∀ c ∈ b, 0 ≤ c ∧ c ≤ 255) : regimenref40_Get (b, ()) = some (getR (getG 0 0 b)) := by
  unfold regimenref40_Get
  dsimp only
  obtain ⟨B, hB⟩ : ∃ B : Nat, B = min 10 b.length + 1 := ⟨_, rfl⟩
  have step : ∀ i : Int, 1 ≤ i → i < B → regimenref40_Code (unfI (uOf b i), ()) = some (code (uOf b i)) ∧ sub b 0 i = some (b.take i.toNat) := fun i i0 i1 => by
    constructor
    · have := unf_range (uOf_lt b i)
      rw [r_Code _ this, fold_unf]
    · unfold sub
      rw [if_pos (by omega)]
      rfl
  refine scan_eq (fun i => ¬ code (uOf b i) = b.take i.toNat) 1 B (by omega) _ _ (fun i => (unfI (uOf b i), i, ())) _ (fun i i0 i1 => ?_) ?_ ?_
  · dsimp only
    obtain ⟨e1, e2⟩ := step i i0 i1
    have hv := val_take b i.toNat (by omega) hl hb
    rw [Int.toNat_of_nonneg (by omega)] at hv
    have hcl : (code (uOf b i)).length ≤ 10 := code_len 9 _ (by
      have := uOf_lt b i
      have h10 : 128 ^ (9 + 1) = 1180591620717411303424 := by decide
      omega)
    rw [decide_eq_true (by omega : i ≤ 10), decide_eq_true (by omega : i ≤ (b.length : Int)), cnd_t, bnd_mk, cnd_t, wr_id (x := i - 1) (by omega) (by omega), hv, bnd_mk]
    dsimp only
    rw [show (valL (b.take i.toNat) % 18446744073709551616 : Nat) = uOf b i from rfl, r_number _ (uOf_lt b i), bnd_mk, e1, bnd_mk, e2, bnd_mk, same40 _ _ (by omega), bnd_mk, bnd_mk, wr_id (x := i + 1) (by omega) (by omega)]
    refine ⟨fun h => ?_, fun h => ?_⟩
    · rw [decide_eq_false h]; rfl
    · rw [decide_eq_true (Classical.not_not.1 h)]; rfl
  · dsimp only
    by_cases h10 : (B : Int) ≤ 10
    · rw [decide_eq_true h10, decide_eq_false (by omega : ¬ (B : Int) ≤ (b.length : Int))]; rfl
    · rw [decide_eq_false h10]; rfl
  · cases hg : getG 0 0 b with
    | none =>
      right
      refine ⟨fun j j0 j1 e => ?_, rfl⟩
      have := get_code hb (uOf_lt b j) (s := b.drop j.toNat) (by rw [e, List.take_append_drop])
      rw [hg] at this
      cases this
    | some q =>
      obtain ⟨U, k⟩ := q
      obtain ⟨s, e1, e2, e3⟩ := get_some hb hg
      have hkl : k ≤ b.length := by
        have := congrArg List.length e1
        rw [List.length_append] at this
        omega
      have hk10 : k ≤ 10 := by
        rw [e2]
        refine code_len 9 _ ?_
        have h10 : 128 ^ (9 + 1) = 1180591620717411303424 := by decide
        omega
      have hk1 := code_pos U
      have ht : b.take k = code U := by rw [e1, e2, List.take_left]
      have hu : uOf b (k : Int) = U := by
        unfold uOf
        rw [Int.toNat_natCast, ht, valL_code U U (Nat.le_refl _), Nat.mod_eq_of_lt e3]
      left
      refine ⟨(k : Int), by omega, by omega, ?_, fun j j0 j1 e => ?_, ?_⟩
      · rw [hu, Int.toNat_natCast, ht]
        exact fun h => h rfl
      · have hf := code_free _ (uOf b j) U (Nat.le_refl _) (b.drop j.toNat) s (by rw [e, List.take_append_drop]; exact e1)
        have := congrArg List.length e
        rw [hf.1, List.length_take] at this
        omega
      · rw [hu]
        rfl
theorem getR_used (b : List Int) (hb : ∀ c ∈ b, 0 ≤ c ∧ c ≤ 255) : (getG 0 0 b = none ∧ getR (getG 0 0 b) = (0, 0, ())) ∨ ∃ U k, getG 0 0 b = some (U, k) ∧ getR (getG 0 0 b) = (unfI U, (k : Int), ()) ∧ 0 < k ∧ k ≤ b.length ∧ U < 18446744073709551616 := by
  cases hg : getG 0 0 b with
  | none => exact .inl ⟨rfl, rfl⟩
  | some q =>
    obtain ⟨U, k⟩ := q
    obtain ⟨s, e1, e2, e3⟩ := get_some hb hg
    have := congrArg List.length e1
    rw [List.length_append] at this
    have := code_pos U
    exact .inr ⟨U, k, rfl, rfl, by omega, by omega, e3⟩
theorem sub_drop (b : List Int) (k : Nat) (h : k ≤ b.length) : sub b (k : Int) (b.length : Int) = some (b.drop k) := by
  unfold sub
  rw [if_pos (by omega), Int.toNat_natCast, Int.toNat_natCast, List.take_length]
theorem read_loop (K : List Int × Unit → Option (List Int × Int × Unit)) : ∀ (N : Nat) (b out : List Int), b.length ≤ N → (∀ c ∈ b, 0 ≤ c ∧ c ≤ 255) → out.length + b.length ≤ 1000000 →
    (bndS (loopP (fun (s2 : List (Int) × List (Int) × Unit) => cnd (decide ((s2.1.length : Int) > 0)) (bnd (bytes_Get (s2.1, ())) fun r3 => cnd (decide (r3.2.1 = 0)) (inrE (inrE (some ([], 2, ())))) (bnd (app 17592186044416 s2.2.1 [r3.1]) fun v4 => bnd (sub s2.1 r3.2.1 (List.length s2.1)) fun v5 => inlE (v5, v4, ()))) (inrE (inlE (s2.2.1, ())))) (b, out, ())) K) = match readG N b with | none => some ([], 2, ()) | some l => K (out ++ l.map unfI, ())
  | N, [], out, hN, hb, hl => by
    rw [loopP_done (r := .inl (out, ())) (by dsimp only; rfl), readG]
    simp
    rfl
  | 0, c :: r, out, hN, hb, hl => by simp at hN
  | N + 1, c :: r, out, hN, hb, hl => by
    rw [readG]
    have hpos : decide (((c :: r).length : Int) > 0) = true := decide_eq_true (by rw [List.length_cons]; omega)
    have hg := p_Get (c :: r) (by omega) hb
    rcases getR_used (c :: r) hb with ⟨e1, e2⟩ | ⟨U, k, e1, e2, e3, e4, e5⟩
    · rw [e2] at hg
      rw [e1, loopP_done (r := .inr ([], 2, ())) (by dsimp only; rw [hpos, cnd_t, hg]; rfl)]
      rfl
    · rw [e2] at hg
      rw [e1, loopP_step (s' := ((c :: r).drop k, out ++ [unfI U], ())) (by
        dsimp only
        rw [hpos, cnd_t, hg, bnd_mk]
        dsimp only
        rw [decide_eq_false (by omega : ¬ (k : Int) = 0), cnd_f, app_ok' (by rw [List.length_singleton]; omega), bnd_mk, sub_drop _ k e4]
        rfl), read_loop K N ((c :: r).drop k) (out ++ [unfI U]) (by rw [List.length_drop]; omega) (fun x hx => hb x (List.mem_of_mem_drop hx)) (by rw [List.length_append, List.length_singleton, List.length_drop]; omega)]
      dsimp only
      cases readG N ((c :: r).drop k) with
      | none => rfl
      | some l =>
        dsimp only
        rw [List.append_assoc, List.map_cons]
        rfl
theorem p_Read (b : List Int) (most : Int) (hl : b.length ≤ 1000000) (hb : ∀ c ∈ b, 0 ≤ c ∧ c ≤ 255) : bytes_Read (b, most, ()) = match readG b.length b with | none => some ([], 2, ()) | some l => if (l.length : Int) > most then some ([], 9, ()) else some (l.map unfI, 0, ()) := by
  unfold bytes_Read
  dsimp only
  rw [read_loop _ b.length b [] (Nat.le_refl _) hb (by simpa using hl)]
  cases readG b.length b with
  | none => rfl
  | some l =>
    dsimp only
    rw [List.nil_append, List.length_map]
    by_cases h : (l.length : Int) > most
    · rw [decide_eq_true h, if_pos h]; rfl
    · rw [decide_eq_false h, if_neg h]; rfl
theorem rread_loop (b : List Int) (hl : b.length ≤ 1000000) (hb : ∀ c ∈ b, 0 ≤ c ∧ c ≤ 255) (K : List Int × Unit → Option (List Int × Int × Unit)) : ∀ (N i : Nat) (out : List Int), i ≤ b.length → b.length - i ≤ N → out.length ≤ i →
    (bndS (loopP (fun (s2 : List (Int) × Int × Unit) => cnd (decide (s2.2.1 < (b.length : Int))) (bnd (sub b s2.2.1 (List.length b)) fun v3 => bnd (regimenref40_Get (v3, ())) fun r4 => cnd (decide (r4.2.1 = 0)) (inrE (inrE (some ([], 2, ())))) (bnd (app 17592186044416 s2.1 [r4.1]) fun v5 => inlE (v5, wr .i64 (s2.2.1 + r4.2.1), ()))) (inrE (inlE (s2.1, ())))) (out, (i : Int), ())) K) = match readG N (b.drop i) with | none => some ([], 2, ()) | some l => K (out ++ l.map unfI, ())
  | N, i, out, hi, hN, ho => by
    by_cases hlt : i < b.length
    · cases hd : b.drop i with
      | nil =>
        have := congrArg List.length hd
        rw [List.length_drop, List.length_nil] at this
        omega
      | cons c r =>
        match N with
        | 0 => omega
        | N + 1 =>
          have hbd : ∀ x ∈ c :: r, 0 ≤ x ∧ x ≤ 255 := fun x hx => hb x (List.mem_of_mem_drop (hd ▸ hx))
          have hlen : (c :: r).length = b.length - i := by rw [← hd, List.length_drop]
          rw [readG]
          have hg := r_Get (c :: r) (by omega) hbd
          rcases getR_used (c :: r) hbd with ⟨e1, e2⟩ | ⟨U, k, e1, e2, e3, e4, e5⟩
          · rw [e2] at hg
            rw [e1, loopP_done (r := .inr ([], 2, ())) (by dsimp only; rw [lt_true hlt, cnd_t, sub_drop b i hi, bnd_mk, hd, hg]; rfl)]
            rfl
          · rw [e2] at hg
            rw [e1, loopP_step (s' := (out ++ [unfI U], ((i + k : Nat) : Int), ())) (by
              dsimp only
              rw [lt_true hlt, cnd_t, sub_drop b i hi, bnd_mk, hd, hg, bnd_mk]
              dsimp only
              rw [decide_eq_false (by omega : ¬ (k : Int) = 0), cnd_f, app_ok' (by rw [List.length_singleton]; omega), bnd_mk, wr_id (x := (i : Int) + k) (by omega) (by omega), show (i : Int) + k = ((i + k : Nat) : Int) by omega]
              rfl), rread_loop b hl hb K N (i + k) (out ++ [unfI U]) (by omega) (by omega) (by rw [List.length_append, List.length_singleton]; omega)]
            dsimp only
            rw [← List.drop_drop, hd]
            cases readG N ((c :: r).drop k) with
            | none => rfl
            | some l =>
              dsimp only
              rw [List.append_assoc, List.map_cons]
              rfl
    · rw [loopP_done (r := .inl (out, ())) (by dsimp only; rw [decide_eq_false (by omega : ¬ (i : Int) < (b.length : Int))]; rfl), List.drop_eq_nil_of_le (by omega), readG]
      simp
      rfl
theorem r_Read (b : List Int) (hl : b.length ≤ 1000000) (hb : ∀ c ∈ b, 0 ≤ c ∧ c ≤ 255) : regimenref40_Read (b, ()) = match readG b.length b with | none => some ([], 2, ()) | some l => some (l.map unfI, 0, ()) := by
  unfold regimenref40_Read
  dsimp only
  have := rread_loop b hl hb (fun j1 => some (j1.1, 0, ())) b.length 0 [] (by omega) (by omega) (by simp)
  rw [List.drop_zero] at this
  refine this.trans ?_
  cases readG b.length b with
  | none => rfl
  | some l => dsimp only; rw [List.nil_append]
end Go.Proofs.YtggmomkohmcciacGreat.F
