/- Numbers as bytes: the program's functions and the reference's. -/
import Derived.Test.YtggmomkohmcciacGreatP40ASnapDecodes
import Derived.Test.YtggmomkohmcciacGreatPJSnapDecodes
set_option linter.unusedVariables false
set_option linter.unusedSimpArgs false
namespace Go.Proofs.YtggmomkohmcciacGreat.F
open Go.VX
open Classical
theorem drop_nth0 (l : List Int) {i : Nat} (h : i < l.length) : l.drop i = nth 0 l i :: l.drop (i + 1) := by
  rw [List.drop_eq_getElem_cons h]
  congr 1
  simp [nth, List.getD, h]
theorem wr8 (x : Int) : wr .u8 x = x % 256 := by
  simp only [wr, IntKind.wrap, IntKind.signed, IntKind.bits]
  simp
theorem or8 (x : Int) (h0 : 0 ≤ x) (h1 : x ≤ 255) : bitI .or .u8 x 128 = x % 128 + 128 := by
  have h : ∀ y : Fin 256, bitI .or .u8 (y.val : Int) 128 = (y.val : Int) % 128 + 128 := by decide +kernel
  have := h ⟨x.toNat, by omega⟩
  dsimp only at this
  rwa [Int.toNat_of_nonneg h0] at this
theorem and8 (x : Int) (h0 : 0 ≤ x) (h1 : x ≤ 255) : bitI .and .u8 x 127 = x % 128 := by
  have h : ∀ y : Fin 256, bitI .and .u8 (y.val : Int) 127 = (y.val : Int) % 128 := by decide +kernel
  have := h ⟨x.toNat, by omega⟩
  dsimp only at this
  rwa [Int.toNat_of_nonneg h0] at this
theorem and1 {x : Int} (h0 : 0 ≤ x) (h1 : x < 18446744073709551616) : bitI .and .u64 x 1 = x % 2 := by
  have e : (BitVec.ofInt 64 x &&& BitVec.ofInt 64 1).toNat = (x % 2).toNat := by
    rw [BitVec.toNat_and, BitVec.toNat_ofInt, BitVec.toNat_ofInt]
    rw [show ((1 : Int) % ((2 ^ 64 : Nat) : Int)).toNat = 2 ^ 1 - 1 from rfl, Nat.and_two_pow_sub_one_eq_mod]
    rw [show ((2 ^ 64 : Nat) : Int) = 18446744073709551616 from rfl, show 2 ^ 1 = 2 from rfl]
    omega
  show wr .u64 ((BitVec.ofInt 64 x &&& BitVec.ofInt 64 1).toNat : Int) = _
  rw [e, wru_id (by omega) (by omega)]
  omega
theorem of_nat {x : Int} (h0 : 0 ≤ x) (h1 : x < 18446744073709551616) : ((BitVec.ofInt 64 x).toNat : Int) = x := by
  rw [BitVec.toNat_ofInt, show ((2 ^ 64 : Nat) : Int) = 18446744073709551616 from rfl]
  omega
theorem ones64 : BitVec.ofInt 64 18446744073709551615 = BitVec.allOnes 64 := by decide
theorem mone64 : BitVec.ofInt 64 (-1) = BitVec.allOnes 64 := by decide
theorem not_nat (x : BitVec 64) : (((x ^^^ BitVec.allOnes 64).toNat : Nat) : Int) = 18446744073709551615 - (x.toNat : Int) := by
  rw [BitVec.xor_allOnes, BitVec.toNat_not]
  have := x.isLt
  omega
theorem xor_u0 {x : Int} (h0 : 0 ≤ x) (h1 : x < 18446744073709551616) : bitI .xor .u64 x 0 = x := by
  show wr .u64 ((BitVec.ofInt 64 x ^^^ BitVec.ofInt 64 0).toNat : Int) = _
  rw [show BitVec.ofInt 64 0 = 0#64 from rfl, BitVec.xor_zero, of_nat h0 h1, wru_id h0 h1]
theorem xor_u1 {x : Int} (h0 : 0 ≤ x) (h1 : x < 18446744073709551616) : bitI .xor .u64 x 18446744073709551615 = 18446744073709551615 - x := by
  show wr .u64 ((BitVec.ofInt 64 x ^^^ BitVec.ofInt 64 18446744073709551615).toNat : Int) = _
  rw [ones64, not_nat, of_nat h0 h1, wru_id (by omega) (by omega)]
theorem xor_i0 {x : Int} (h0 : 0 ≤ x) (h1 : x < 9223372036854775808) : bitI .xor .i64 x 0 = x := by
  show wr .i64 ((BitVec.ofInt 64 x ^^^ BitVec.ofInt 64 0).toNat : Int) = _
  rw [show BitVec.ofInt 64 0 = 0#64 from rfl, BitVec.xor_zero, of_nat h0 (by omega), wr_id (by omega) (by omega)]
theorem xor_i1 {x : Int} (h0 : 0 ≤ x) (h1 : x < 9223372036854775808) : bitI .xor .i64 x (-1) = -x - 1 := by
  show wr .i64 ((BitVec.ofInt 64 x ^^^ BitVec.ofInt 64 (-1)).toNat : Int) = _
  rw [mone64, not_nat, of_nat h0 (by omega)]
  show IntKind.i64.wrap _ = _
  rw [IntKind.wrap_i64]
  omega
theorem or_comm64 (x y : Int) : bitI .or .u64 x y = bitI .or .u64 y x := by
  show wr .u64 ((BitVec.ofInt 64 x ||| BitVec.ofInt 64 y).toNat : Int) = wr .u64 ((BitVec.ofInt 64 y ||| BitVec.ofInt 64 x).toNat : Int)
  rw [BitVec.or_comm]
def In64' (n : Int) : Prop := -9223372036854775808 ≤ n ∧ n ≤ 9223372036854775807
theorem p_Fold (n : Int) (h : In64' n) : bytes_Fold (n, ()) = some (foldI n : Int) := by
  unfold In64' at h
  unfold bytes_Fold foldI
  dsimp only
  by_cases h0 : 0 ≤ n
  · rw [if_pos h0, wru_id (x := n) h0 (by omega), show n * 2 ^ 1 = 2 * n by omega, wru_id (x := 2 * n) (by omega) (by omega), Int.fdiv_eq_ediv_of_nonneg _ (by decide), show n / 2 ^ 63 = 0 by omega, show wr .u64 (0 : Int) = 0 from rfl, xor_u0 (by omega) (by omega), Int.toNat_of_nonneg (by omega)]
  · rw [if_neg h0, wru_mod n, show n % 18446744073709551616 = n + 18446744073709551616 by omega, wru_mod, show (n + 18446744073709551616) * 2 ^ 1 % 18446744073709551616 = 2 * n + 18446744073709551616 by omega, Int.fdiv_eq_ediv_of_nonneg _ (by decide), show n / 2 ^ 63 = -1 by omega, show wr .u64 (-1 : Int) = 18446744073709551615 from rfl, xor_u1 (by omega) (by omega), Int.toNat_of_nonneg (by omega)]
    congr 1
    omega
theorem r_Fold (n : Int) (h : In64' n) : regimenref40_Fold (n, ()) = some (foldI n : Int) := by
  unfold In64' at h
  unfold regimenref40_Fold foldI
  dsimp only
  by_cases h0 : 0 ≤ n
  · rw [if_pos h0, decide_eq_true (show n ≥ 0 from h0), cnd_t, wru_id (x := n) h0 (by omega), wru_id (by omega) (by omega), Int.toNat_of_nonneg (by omega)]
  · rw [if_neg h0, decide_eq_false (show ¬ n ≥ 0 from h0), cnd_f]
    simp only [wru_mod]
    rw [Int.toNat_of_nonneg (by omega)]
    congr 1
    omega
theorem p_Unfold (u : Nat) (h : u < 18446744073709551616) : bytes_Unfold ((u : Int), ()) = some (unfI u) := by
  unfold bytes_Unfold unfI
  dsimp only
  rw [and1 (by omega) (by omega), Int.fdiv_eq_ediv_of_nonneg _ (by decide), wr_id (x := (u : Int) / 2 ^ 1) (by omega) (by omega), wr_id (x := (u : Int) % 2) (by omega) (by omega), wr_id (x := 0 - (u : Int) % 2) (by omega) (by omega)]
  by_cases h2 : u % 2 = 0
  · rw [if_pos h2, show (0 : Int) - (u : Int) % 2 = 0 by omega, xor_i0 (by omega) (by omega)]
    congr 1
  · rw [if_neg h2, show (0 : Int) - (u : Int) % 2 = -1 by omega, xor_i1 (by omega) (by omega)]
    congr 1
theorem r_number (u : Nat) (h : u < 18446744073709551616) : regimenref40_number ((u : Int), ()) = some (unfI u) := by
  unfold regimenref40_number unfI
  dsimp only
  rw [Int.tmod_eq_emod_of_nonneg (by omega), Int.tdiv_eq_ediv_of_nonneg (by omega), wru_id (x := (u : Int) / 2) (by omega) (by omega), wr_id (x := (u : Int) / 2) (by omega) (by omega)]
  by_cases h2 : u % 2 = 0
  · rw [if_pos h2, decide_eq_true (show (u : Int) % 2 = 0 by omega)]
    rfl
  · rw [if_neg h2, decide_eq_false (show ¬ (u : Int) % 2 = 0 by omega), cnd_f, wr_id (x := 0 - (u : Int) / 2) (by omega) (by omega), wr_id (by omega) (by omega)]
    congr 1
    omega
theorem app_ok' {α : Type} {lim : Nat} {xs ys : List α} (h : xs.length + ys.length ≤ lim) : app lim xs ys = some (xs ++ ys) := by
  unfold app
  rw [if_pos h]
theorem put_loop : ∀ (N u : Nat), u ≤ N → ∀ out : List Int, out.length + (code u).length ≤ 2000000 →
    (bnd (loopP (fun (s4 : List (Int) × Int × Unit) => cnd (decide (s4.2.1 ≥ 128)) (bnd (app 140737488355328 s4.1 [bitI .or .u8 (wr .u8 s4.2.1) 128]) fun v5 => inlE (v5, Int.fdiv s4.2.1 (2 ^ 7), ())) (inrE (some (s4.1, s4.2.1, ())))) (out, (u : Int), ())) fun j3 => bnd (app 140737488355328 j3.1 [wr .u8 j3.2.1]) fun v6 => some v6) = some (out ++ code u)
  | N, u, hN, out, hl => by
    by_cases h : u < 128
    · rw [code_lt h] at hl ⊢
      rw [loopP_done (r := (out, (u : Int), ())) (by dsimp only; rw [decide_eq_false (by omega : ¬ (u : Int) ≥ 128)]; rfl), bnd_mk]
      dsimp only
      rw [wr8, show (u : Int) % 256 = u by omega, app_ok' (by omega)]
      rfl
    · rw [code_ge h] at hl ⊢
      rw [List.length_cons] at hl
      match N with
      | 0 => omega
      | N + 1 =>
        rw [loopP_step (s' := (out ++ [((u % 128 + 128 : Nat) : Int)], ((u / 128 : Nat) : Int), ())) (by
          dsimp only
          rw [decide_eq_true (by omega : (u : Int) ≥ 128), cnd_t, wr8, or8 _ (by omega) (by omega), app_ok' (by rw [List.length_singleton]; omega), bnd_mk, Int.fdiv_eq_ediv_of_nonneg _ (by decide), show (u : Int) % 256 % 128 + 128 = ((u % 128 + 128 : Nat) : Int) by omega, show (u : Int) / 2 ^ 7 = ((u / 128 : Nat) : Int) by omega]
          rfl), put_loop N (u / 128) (by omega) _ (by rw [List.length_append, List.length_singleton]; omega), List.append_assoc]
        rfl
theorem fold_len (n : Int) (h : In64' n) : (code (foldI n)).length ≤ 10 := by
  have := fold_lt h.1 h.2
  refine code_len 9 _ ?_
  have h10 : 128 ^ (9 + 1) = 1180591620717411303424 := by decide
  omega
theorem p_Put (out : List Int) (n : Int) (h : In64' n) (hl : out.length ≤ 1000000) : bytes_Put (out, n, ()) = some (out ++ code (foldI n)) := by
  have hc := fold_len n h
  unfold bytes_Put
  dsimp only
  rw [show slices_Clone_byte_byte (out, ()) = some out from clone_ok out _ (by omega), bnd_mk, p_Fold n h, bnd_mk]
  exact put_loop _ _ (Nat.le_refl _) out (by omega)
theorem code_loop : ∀ (N u : Nat), u ≤ N → u < 18446744073709551616 → ∀ out : List Int, out.length + (code u).length ≤ 2000000 →
    (bnd (loopP (fun (s3 : Int × List (Int) × Unit) => cnd (decide (s3.1 ≥ 128)) (bnd (app 140737488355328 s3.2.1 [wr .u8 ((wr .u8 (Int.tmod s3.1 128)) + 128)]) fun v4 => inlE (wr .u64 (Int.tdiv s3.1 128), v4, ())) (inrE (some (s3.1, s3.2.1, ())))) ((u : Int), out, ())) fun j2 => bnd (app 140737488355328 j2.2.1 [wr .u8 j2.1]) fun v5 => some v5) = some (out ++ code u)
  | N, u, hN, hu, out, hl => by
    by_cases h : u < 128
    · rw [code_lt h] at hl ⊢
      rw [loopP_done (r := ((u : Int), out, ())) (by dsimp only; rw [decide_eq_false (by omega : ¬ (u : Int) ≥ 128)]; rfl), bnd_mk]
      dsimp only
      rw [wr8, show (u : Int) % 256 = u by omega, app_ok' (by omega)]
      rfl
    · rw [code_ge h] at hl ⊢
      rw [List.length_cons] at hl
      match N with
      | 0 => omega
      | N + 1 =>
        rw [loopP_step (s' := (((u / 128 : Nat) : Int), out ++ [((u % 128 + 128 : Nat) : Int)], ())) (by
          dsimp only
          rw [decide_eq_true (by omega : (u : Int) ≥ 128), cnd_t, Int.tmod_eq_emod_of_nonneg (by omega), Int.tdiv_eq_ediv_of_nonneg (by omega), wr8, wr8, app_ok' (by rw [List.length_singleton]; omega), bnd_mk, wru_id (by omega) (by omega), show ((u : Int) % 128 % 256 + 128) % 256 = ((u % 128 + 128 : Nat) : Int) by omega, show (u : Int) / 128 = ((u / 128 : Nat) : Int) by omega]
          rfl), code_loop N (u / 128) (by omega) (by omega) _ (by rw [List.length_append, List.length_singleton]; omega), List.append_assoc]
        rfl
theorem r_Code (n : Int) (h : In64' n) : regimenref40_Code (n, ()) = some (code (foldI n)) := by
  have hc := fold_len n h
  unfold regimenref40_Code
  dsimp only
  rw [r_Fold n h, bnd_mk]
  have := code_loop _ (foldI n) (Nat.le_refl _) (fold_lt h.1 h.2) [] (by simp; omega)
  rw [List.nil_append] at this
  exact this
theorem codes_len : ∀ l : List Int, (∀ n ∈ l, In64' n) → (codes (l.map foldI)).length ≤ 10 * l.length
  | [], h => by simp [codes]
  | n :: l, h => by
    have h1 := fold_len n (h n (List.mem_cons_self ..))
    have h2 := codes_len l (fun m hm => h m (List.mem_cons_of_mem _ hm))
    rw [List.map_cons, codes, List.length_append, List.length_cons]
    omega
theorem all_loop40 (l : List Int) (h : ∀ n ∈ l, In64' n) (hl : l.length ≤ 10000) (f : List Int × Int × Unit → Option ((List Int × Int × Unit) ⊕ (List Int × Unit)))
    (h1 : ∀ (k : Nat) out, k < l.length → out.length ≤ 1000000 → f (out, (k : Int), ()) = some (.inl (out ++ code (foldI (nth 0 l k)), (k : Int) + 1, ())))
    (h2 : ∀ out, f (out, (l.length : Int), ()) = some (.inr (out, ()))) : loopP f ([], 0, ()) = some (codes (l.map foldI), ()) := by
  have key : ∀ k, k ≤ l.length → loopP f ([], 0, ()) = loopP f (codes ((l.take k).map foldI), (k : Int), ()) := by
    intro k
    induction k with
    | zero => intro _; rfl
    | succ k ih =>
      intro hk
      have hlen := codes_len (l.take k) (fun n hn => h n (List.mem_of_mem_take hn))
      rw [List.length_take] at hlen
      rw [ih (by omega), loopP_step (h1 k _ (by omega) (by omega)), List.take_add_one, List.map_append, codes_app]
      have : l[k]?.toList = [nth 0 l k] := by simp [nth, List.getD, (show k < l.length by omega)]
      rw [this, List.map_cons, codes, List.map_nil, codes, List.append_nil]
      rfl
  rw [key _ (Nat.le_refl _), List.take_length, loopP_done (h2 _)]
theorem p_All (l : List Int) (h : ∀ n ∈ l, In64' n) (hl : l.length ≤ 10000) : bytes_All (l, ()) = some (codes (l.map foldI)) := by
  unfold bytes_All
  dsimp only
  rw [all_loop40 l h hl]
  · rfl
  · intro k out hk ho
    dsimp only
    rw [lt_true hk, cnd_t, ati_d 0 hk, bnd_mk, p_Put out _ (h _ (nth_mem hk)) ho, bnd_mk, wr_succ hk (by omega)]
    rfl
  · intro out
    dsimp only
    rw [lt_false]
    rfl
theorem shl7 (x : Int) (i : Nat) (hi : i ≤ 9) : shlI .u64 x (wr .i64 (7 * (i : Int))) = some (wr .u64 (x * ((128 ^ i : Nat) : Int))) := by
  have e : ((128 ^ i : Nat) : Int) = 2 ^ (7 * i) := by
    rw [show (128 : Nat) = 2 ^ 7 from rfl, ← Nat.pow_mul]
    exact Int.natCast_pow 2 (7 * i)
  have hm : min (7 * (i : Int)).toNat (IntKind.bits .u64) = 7 * i := by
    show min (7 * (i : Int)).toNat 64 = 7 * i
    omega
  rw [wr_id (x := 7 * (i : Int)) (by omega) (by omega), e]
  unfold shlI
  rw [if_neg (by omega), hm]
  rfl
theorem pow_le9 {i : Nat} (h : i ≤ 9) : 128 ^ i ≤ 9223372036854775808 := by
  have : 128 ^ i ≤ 128 ^ 9 := Nat.pow_le_pow_right (by omega) h
  have : 128 ^ 9 = 9223372036854775808 := by decide
  omega
theorem pow_le8 {i : Nat} (h : i ≤ 8) : 128 ^ i ≤ 72057594037927936 := by
  have : 128 ^ i ≤ 128 ^ 8 := Nat.pow_le_pow_right (by omega) h
  have : 128 ^ 8 = 72057594037927936 := by decide
  omega
theorem or7 (acc x i : Nat) (hi : i ≤ 9) (ha : acc < 128 ^ i) (hx : x * 128 ^ i + acc < 18446744073709551616) : bitI .or .u64 (acc : Int) ((x * 128 ^ i : Nat) : Int) = ((acc + x * 128 ^ i : Nat) : Int) := by
  have e : ((128 ^ i : Nat) : Int) = 2 ^ (7 * i) := by
    rw [show (128 : Nat) = 2 ^ 7 from rfl, ← Nat.pow_mul]
    exact Int.natCast_pow 2 (7 * i)
  have h := or_add (x := (x : Int)) (y := (acc : Int)) (7 * i) (by omega) (by omega) (by rw [← e, ← Int.natCast_mul]; omega) (by omega) (by rw [← e]; omega)
  rw [← e, ← Int.natCast_mul] at h
  rw [or_comm64, h]
  omega
def getR (o : Option (Nat × Nat)) : Int × Int × Unit := match o with
  | some p => (unfI p.1, (p.2 : Int), ())
  | none => (0, 0, ())
theorem get_loop (b : List Int) (hl : b.length ≤ 1000000) (hb : ∀ c ∈ b, 0 ≤ c ∧ c ≤ 255) : ∀ (r : List Int) (i acc : Nat), b.drop i = r → i ≤ b.length → i ≤ 10 → acc < 128 ^ i →
    (bndS (loopP (fun (s2 : Int × Int × Unit) => cnd (decide (s2.2.1 < (b.length : Int))) (bnd (ati b s2.2.1) fun v3 => bnd (cnd (!(decide (s2.2.1 = 10))) (bnd (cnd (decide (s2.2.1 = 9)) (some (decide (v3 > 1))) (some false)) fun j4 => some j4) (some true)) fun j5 => cnd j5 (inrE (inrE (some (0, 0, ())))) (bnd (shlI .u64 (wr .u64 (bitI .and .u8 v3 127)) (wr .i64 (7 * s2.2.1))) fun v6 => cnd (decide (v3 ≥ 128)) (inlE (bitI .or .u64 s2.1 v6, wr .i64 (s2.2.1 + 1), ())) (bnd (cnd (decide (v3 = 0)) (some (decide (s2.2.1 > 0))) (some false)) fun j7 => cnd j7 (inrE (inrE (some (0, 0, ())))) (bnd (bytes_Unfold (bitI .or .u64 s2.1 v6, ())) fun r8 => inrE (inrE (some (r8, wr .i64 (s2.2.1 + 1), ()))))))) (inrE (inlE (())))) ((acc : Int), (i : Int), ())) fun j1 => some (0, 0, ())) = some (getR (getG i acc r))
  | [], i, acc, hr, hi, h10, ha => by
    have : i = b.length := by
      have := congrArg List.length hr
      rw [List.length_drop, List.length_nil] at this
      omega
    rw [loopP_done (r := .inl ()) (by dsimp only; rw [decide_eq_false (by omega : ¬ (i : Int) < (b.length : Int))]; rfl)]
    rfl
  | c :: r, i, acc, hr, hi, h10, ha => by
    have hlt : i < b.length := by
      have := congrArg List.length hr
      rw [List.length_drop, List.length_cons] at this
      omega
    have hcn : nth 0 b i = c := by
      have := drop_nth0 b hlt
      rw [hr] at this
      injection this with h1 _
      exact h1.symm
    have hr1 : b.drop (i + 1) = r := by
      have := drop_nth0 b hlt
      rw [hr] at this
      injection this with _ h2
      exact h2.symm
    have hc := hb c (hcn ▸ nth_mem hlt)
    rw [getG]
    by_cases h1 : i = 10 ∨ i = 9 ∧ c > 1
    · rw [if_pos h1, loopP_done (r := .inr (0, 0, ())) ?_]
      · rfl
      · dsimp only
        rw [lt_true hlt, cnd_t, ati_d 0 hlt, hcn, bnd_mk]
        by_cases h2 : i = 10
        · rw [decide_eq_true (show (i : Int) = 10 by omega)]; rfl
        · rw [decide_eq_false (show ¬ (i : Int) = 10 by omega), decide_eq_true (show (i : Int) = 9 by omega), decide_eq_true (show c > 1 by omega)]; rfl
    rw [if_neg h1]
    have hi9 : i ≤ 9 := by omega
    have p9 := pow_le9 hi9
    have hguard : ∀ {β : Type} (K : Bool → Option β), bnd (cnd (!(decide ((i : Int) = 10))) (bnd (cnd (decide ((i : Int) = 9)) (some (decide (c > 1))) (some false)) fun j4 => some j4) (some true)) K = K false := fun K => by
      rw [decide_eq_false (show ¬ (i : Int) = 10 by omega), Bool.not_false, cnd_t]
      by_cases h9 : i = 9
      · rw [decide_eq_true (show (i : Int) = 9 by omega), decide_eq_false (show ¬ c > 1 by omega)]; rfl
      · rw [decide_eq_false (show ¬ (i : Int) = 9 by omega)]; rfl
    obtain ⟨x, hx, hx2⟩ : ∃ x : Nat, c % 128 = (x : Int) ∧ x ≤ 127 := ⟨(c % 128).toNat, by omega, by omega⟩
    have hx9 : i = 9 → x ≤ 1 := fun h9 => by omega
    have hxm : x * 128 ^ i + acc < 18446744073709551616 := by
      by_cases h9 : i = 9
      · have := Nat.mul_le_mul_right (128 ^ i) (hx9 h9)
        omega
      · have := pow_le8 (show i ≤ 8 by omega)
        have := Nat.mul_le_mul_right (128 ^ i) hx2
        omega
    have hsh : shlI .u64 (wr .u64 (bitI .and .u8 c 127)) (wr .i64 (7 * (i : Int))) = some ((x * 128 ^ i : Nat) : Int) := by
      rw [and8 c hc.1 hc.2, hx, wru_id (x := (x : Int)) (by omega) (by omega), shl7 _ i hi9, ← Int.natCast_mul, wru_id (by omega) (by omega)]
    by_cases h2 : c ≥ 128
    · have hxc : (c - 128).toNat = x := by omega
      rw [if_pos h2, hxc, loopP_step (s' := (((acc + x * 128 ^ i : Nat) : Int), ((i + 1 : Nat) : Int), ())) (by
        dsimp only
        rw [lt_true hlt, cnd_t, ati_d 0 hlt, hcn, bnd_mk, hguard, cnd_f, hsh, bnd_mk, decide_eq_true h2, cnd_t, or7 acc x i hi9 ha hxm, wr_succ hlt (by omega)]
        rfl)]
      refine get_loop b hl hb r (i + 1) (acc + x * 128 ^ i) hr1 (by omega) (by omega) ?_
      rw [Nat.pow_succ]
      have := Nat.mul_le_mul_right (128 ^ i) hx2
      omega
    · have hxc : c.toNat = x := by omega
      rw [if_neg h2, hxc]
      by_cases h3 : c = 0 ∧ 0 < i
      · rw [if_pos h3, loopP_done (r := .inr (0, 0, ())) ?_]
        · rfl
        · dsimp only
          rw [lt_true hlt, cnd_t, ati_d 0 hlt, hcn, bnd_mk, hguard, cnd_f, hsh, bnd_mk, decide_eq_false h2, cnd_f, decide_eq_true h3.1, decide_eq_true (show (i : Int) > 0 by omega)]
          rfl
      · rw [if_neg h3, loopP_done (r := .inr (unfI (acc + x * 128 ^ i), ((i + 1 : Nat) : Int), ())) ?_]
        · rfl
        · dsimp only
          rw [lt_true hlt, cnd_t, ati_d 0 hlt, hcn, bnd_mk, hguard, cnd_f, hsh, bnd_mk, decide_eq_false h2, cnd_f, or7 acc x i hi9 ha hxm, p_Unfold _ (by omega), wr_succ hlt (by omega)]
          have hz : ∀ {β : Type} (K : Bool → Option β), bnd (cnd (decide (c = 0)) (some (decide ((i : Int) > 0))) (some false)) K = K false := fun K => by
            by_cases h4 : c = 0
            · rw [decide_eq_true h4, decide_eq_false (show ¬ (i : Int) > 0 by omega)]; rfl
            · rw [decide_eq_false h4]; rfl
          rw [hz]
          rfl
theorem p_Get (b : List Int) (hl : b.length ≤ 1000000) (hb : ∀ c ∈ b, 0 ≤ c ∧ c ≤ 255) : bytes_Get (b, ()) = some (getR (getG 0 0 b)) := get_loop b hl hb b 0 0 rfl (by omega) (by omega) (by decide)
end Go.Proofs.YtggmomkohmcciacGreat.F
