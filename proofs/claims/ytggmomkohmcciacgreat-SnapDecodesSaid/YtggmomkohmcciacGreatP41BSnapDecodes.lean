/- States as numbers: the program's functions and the reference's. -/
import Derived.Test.YtggmomkohmcciacGreatP41ASnapDecodes
import Derived.Test.YtggmomkohmcciacGreatP40CSnapDecodes
set_option linter.unusedVariables false
set_option linter.unusedSimpArgs false
namespace Go.Proofs.YtggmomkohmcciacGreat.F
open Go.VX
open Classical
theorem p_bit41 (b : Bool) : snap_bit (b, ()) = some (bitS b) := by cases b <;> rfl
theorem r_bit41 (b : Bool) : regimenref41_bit (b, ()) = some (bitS b) := by cases b <;> rfl
abbrev zKept : KeptD := (0, 0, ())
theorem kept_loop (l : List KeptD) (out : List Int) (f : List Int × Int × Unit → Option ((List Int × Int × Unit) ⊕ (List Int × Unit)))
    (h1 : ∀ (k : Nat) o, k < l.length → o.length ≤ out.length + 2 * l.length → f (o, (k : Int), ()) = some (.inl (o ++ [(nth zKept l k).1, (nth zKept l k).2.1], (k : Int) + 1, ())))
    (h2 : ∀ o, f (o, (l.length : Int), ()) = some (.inr (o, ()))) : loopP f (out, 0, ()) = some (out ++ flatK l, ()) := by
  have key : ∀ k, k ≤ l.length → loopP f (out, 0, ()) = loopP f (out ++ flatK (l.take k), (k : Int), ()) := by
    intro k
    induction k with
    | zero => intro _; rw [List.take_zero, flatK, List.append_nil]; rfl
    | succ k ih =>
      intro hk
      rw [ih (by omega), loopP_step (h1 k _ (by omega) (by rw [List.length_append, flatK_len, List.length_take]; omega)), take_nth zKept l hk, flatK_app, List.append_assoc]
      rfl
  rw [key _ (Nat.le_refl _), List.take_length, loopP_done (h2 _)]
structure Small (s : StateD) : Prop where
  k : s.2.2.2.2.2.1.length ≤ 1000
  e : s.2.2.2.2.2.2.1.length ≤ 1000
  s : s.2.2.2.2.2.2.2.1.2.1.length ≤ 1000
theorem p_Numbers (s : StateD) (w : Small s) : snap_Numbers (s, ()) = some (numsS s) := by
  have w1 := w.k
  have w2 := w.e
  have w3 := w.s
  unfold snap_Numbers snap_watch snap_list
  dsimp only
  rw [p_bit41, p_bit41, bnd_mk, bnd_mk, app_ok' (by simp), bnd_mk, bnd_mk, bnd_mk, app_ok' (by simp), bnd_mk, app_ok' (by simp), bnd_mk, kept_loop s.2.2.2.2.2.1]
  · rw [bnd_mk, app_ok' (by rw [List.length_singleton]; omega), bnd_mk, bnd_mk]
    dsimp only
    rw [app_ok' (by simp [flatK_len]; omega), bnd_mk, app_ok' (by simp [flatK_len]; omega), bnd_mk, app_ok' (by rw [List.length_singleton]; omega), bnd_mk, bnd_mk, app_ok' (by simp [flatK_len]; omega), bnd_mk]
    simp [numsS, tailS]
  · intro k o hk ho
    simp at ho
    dsimp only
    rw [lt_true hk, cnd_t, ati_d zKept hk, bnd_mk, app_ok' (by simp; omega), bnd_mk, wr_succ hk (by omega)]
    rfl
  · intro o
    dsimp only
    rw [lt_false]
    rfl
theorem r_Numbers (s : StateD) (w : Small s) : regimenref41_Numbers (s, ()) = some (numsS s) := by
  have w1 := w.k
  have w2 := w.e
  have w3 := w.s
  unfold regimenref41_Numbers
  dsimp only
  rw [r_bit41, r_bit41, bnd_mk, bnd_mk, kept_loop s.2.2.2.2.2.1]
  · rw [bnd_mk]
    dsimp only
    rw [app_ok' (by simp [flatK_len]; omega), bnd_mk, app_ok' (by simp [flatK_len]; omega), bnd_mk, app_ok' (by simp [flatK_len]; omega), bnd_mk, app_ok' (by simp [flatK_len]; omega), bnd_mk, app_ok' (by simp [flatK_len]; omega), bnd_mk]
    simp [numsS, tailS]
  · intro k o hk ho
    simp at ho
    dsimp only
    rw [lt_true hk, cnd_t, ati_d zKept hk, bnd_mk, app_ok' (by simp; omega), bnd_mk, bnd_mk, app_ok' (by simp; omega), bnd_mk, wr_succ hk (by omega), List.append_assoc]
    rfl
  · intro o
    dsimp only
    rw [lt_false]
    rfl
theorem r_Bytes (s : StateD) (w : Small s) (h : ∀ n ∈ numsS s, In64' n) : regimenref41_Bytes (s, ()) = some (codes ((numsS s).map foldI)) := by
  have hlen : (numsS s).length ≤ 5000 := by
    have w1 := w.k
    have w2 := w.e
    have w3 := w.s
    simp only [numsS, tailS, List.length_cons, List.length_append, flatK_len]
    omega
  unfold regimenref41_Bytes
  dsimp only
  rw [r_Numbers s w, bnd_mk, all_loop40 (numsS s) h (by omega)]
  · rfl
  · intro k out hk ho
    have hk64 := h _ (nth_mem (z := 0) hk)
    have hc := fold_len _ hk64
    dsimp only
    rw [lt_true hk, cnd_t, ati_d 0 hk, bnd_mk, r_Code _ hk64, bnd_mk, app_ok' (by omega), bnd_mk, wr_succ hk (by omega)]
    rfl
  · intro out
    dsimp only
    rw [lt_false]
    rfl
-- the reader
abbrev RdD := List Int × Bool × Unit
def PS (l : List Int) (e : Bool) (j : Nat) : RdD := (l.drop j, (e || decide (l.length < j)), ())
theorem nth_out {α : Type} (z : α) (l : List α) {i : Nat} (h : ¬ i < l.length) : nth z l i = z := by
  simp [nth, List.getD, h]
theorem p_next (l : List Int) (e : Bool) (j : Nat) : snap_reader_next (((), ()), (PS l e j, ())) = some (nth 0 l j, (PS l e (j + 1), ())) := by
  unfold snap_reader_next PS
  dsimp only
  by_cases h : j < l.length
  · rw [drop_nth 0 l h, decide_eq_false (by rw [List.length_cons]; omega : ¬ ((nth 0 l j :: l.drop (j + 1)).length : Int) = 0), cnd_f, ati_0 0 (by simp), bnd_mk, decide_eq_false (by omega : ¬ l.length < j), decide_eq_false (by omega : ¬ l.length < j + 1)]
    have := sub_drop (nth 0 l j :: l.drop (j + 1)) 1 (by simp)
    rw [show ((1 : Nat) : Int) = 1 from rfl] at this
    rw [this]
    rfl
  · rw [List.drop_eq_nil_of_le (by omega), List.drop_eq_nil_of_le (by omega), nth_out 0 l h, decide_eq_true (by omega : l.length < j + 1), Bool.or_true]
    rfl
theorem p_bitr (l : List Int) (e : Bool) (j : Nat) : snap_reader_bit (((), ()), (PS l e j, ())) = some (decide (nth 0 l j = 1), (PS l (e || !decide (nth 0 l j = 0 ∨ nth 0 l j = 1)) (j + 1), ())) := by
  unfold snap_reader_bit
  dsimp only
  rw [p_next, bnd_mk]
  unfold PS
  dsimp only
  generalize nth 0 l j = n
  by_cases h0 : n = 0
  · rw [decide_eq_true h0, decide_eq_true (Or.inl h0 : n = 0 ∨ n = 1)]
    cases e <;> cases decide (l.length < j + 1) <;> rfl
  · by_cases h1 : n = 1
    · rw [decide_eq_false h0, decide_eq_true h1, decide_eq_true (Or.inr h1 : n = 0 ∨ n = 1)]
      cases e <;> cases decide (l.length < j + 1) <;> rfl
    · rw [decide_eq_false h0, decide_eq_false h1, decide_eq_false (fun h => h.elim h0 h1 : ¬ (n = 0 ∨ n = 1))]
      cases e <;> cases decide (l.length < j + 1) <;> rfl
theorem p_watchr (l : List Int) (e : Bool) (j : Nat) : snap_reader_watch (((), ()), (PS l e j, ())) = some ((decide (nth 0 l j = 1), nth 0 l (j + 1), nth 0 l (j + 2), ()), (PS l (e || !decide (nth 0 l j = 0 ∨ nth 0 l j = 1)) (j + 3), ())) := by
  unfold snap_reader_watch
  dsimp only
  rw [p_bitr, bnd_mk, p_next, bnd_mk, p_next, bnd_mk]
def ManyOk (l : List Int) (j : Nat) (each : Int) : Prop := 0 ≤ nth 0 l j ∧ nth 0 l j ≤ ((l.length - (j + 1) : Nat) : Int) / each
theorem p_manyr (l : List Int) (hl : l.length ≤ 1000000) (e : Bool) (j : Nat) (each : Int) (he : 0 < each) : (ManyOk l j each → snap_reader_many (((), each, ()), (PS l e j, ())) = some (nth 0 l j, (PS l e (j + 1), ()))) ∧ (¬ ManyOk l j each → snap_reader_many (((), each, ()), (PS l e j, ())) = some (0, (PS l true (j + 1), ()))) := by
  unfold snap_reader_many ManyOk
  dsimp only
  rw [p_next, bnd_mk]
  have hlen : ((PS l e (j + 1)).1.length : Int) = ((l.length - (j + 1) : Nat) : Int) := by
    unfold PS
    rw [List.length_drop]
  have hq : quoI .i64 ((PS l e (j + 1)).1.length : Int) each = some (((l.length - (j + 1) : Nat) : Int) / each) := by
    have hd0 := Int.ediv_nonneg (show (0 : Int) ≤ ((l.length - (j + 1) : Nat) : Int) by omega) (show 0 ≤ each by omega)
    have hd1 := Int.ediv_le_self each (show (0 : Int) ≤ ((l.length - (j + 1) : Nat) : Int) by omega)
    unfold quoI
    rw [if_neg (by omega), hlen, Int.tdiv_eq_ediv_of_nonneg (by omega)]
    exact congrArg some (wr_id (by omega) (by omega))
  have hp1 : ((PS l e (j + 1)).1, (PS l e (j + 1)).2.1, (PS l e (j + 1)).2.2) = PS l e (j + 1) := rfl
  have hp2 : ((PS l e (j + 1)).1, true, (PS l e (j + 1)).2.2) = PS l true (j + 1) := by
    unfold PS
    rw [Bool.true_or]
  rw [hp1, hp2, hq]
  generalize nth 0 l j = n
  generalize ((l.length - (j + 1) : Nat) : Int) / each = q
  constructor
  · rintro ⟨h0, h1⟩
    rw [decide_eq_false (by omega : ¬ n < 0), Bool.not_false, cnd_t, bnd_mk, decide_eq_false (by omega : ¬ n > q)]
    rfl
  · intro h
    by_cases h0 : n < 0
    · rw [decide_eq_true h0]; rfl
    · rw [decide_eq_false h0, Bool.not_false, cnd_t, bnd_mk, decide_eq_true (by omega : n > q)]; rfl
theorem many_one (l : List Int) (j : Nat) (h : ManyOk l j 1) : ∃ m : Nat, nth 0 l j = (m : Int) ∧ m ≤ l.length - (j + 1) := by
  obtain ⟨h0, h1⟩ := h
  rw [Int.ediv_one] at h1
  exact ⟨(nth 0 l j).toNat, by omega, by omega⟩
theorem p_listr (l : List Int) (hl : l.length ≤ 1000000) (e : Bool) (j : Nat) : (∀ m : Nat, nth 0 l j = (m : Int) → m ≤ l.length - (j + 1) → snap_reader_list (((), ()), (PS l e j, ())) = some (numsOf l (j + 1) m, (PS l e (j + 1 + m), ()))) ∧ (¬ ManyOk l j 1 → ∃ x j', snap_reader_list (((), ()), (PS l e j, ())) = some (x, (PS l true j', ()))) := by
  constructor
  · intro m hm hml
    have hok : ManyOk l j 1 := ⟨by omega, by rw [Int.ediv_one]; omega⟩
    unfold snap_reader_list
    dsimp only
    rw [(p_manyr l hl e j 1 (by omega)).1 hok, bnd_mk]
    dsimp only
    rw [hm]
    have key : ∀ i : Nat, i ≤ m → loopP (fun (s3 : List (Int) × Int × (List (Int) × (Bool × Unit)) × Unit) => cnd (decide (s3.2.1 < (m : Int))) (bnd (snap_reader_next (((), ()), (s3.2.2.1, ()))) fun r4 => bnd (app 17592186044416 s3.1 [r4.1]) fun v5 => inlE (v5, wr .i64 (s3.2.1 + 1), r4.2.1, ())) (inrE (some (s3.1, s3.2.2.1, ())))) ([], 0, PS l e (j + 1), ()) = loopP (fun (s3 : List (Int) × Int × (List (Int) × (Bool × Unit)) × Unit) => cnd (decide (s3.2.1 < (m : Int))) (bnd (snap_reader_next (((), ()), (s3.2.2.1, ()))) fun r4 => bnd (app 17592186044416 s3.1 [r4.1]) fun v5 => inlE (v5, wr .i64 (s3.2.1 + 1), r4.2.1, ())) (inrE (some (s3.1, s3.2.2.1, ())))) (numsOf l (j + 1) i, (i : Int), PS l e (j + 1 + i), ()) := by
      intro i
      induction i with
      | zero => intro _; rfl
      | succ i ih =>
        intro hi
        rw [ih (by omega)]
        refine loopP_step ?_
        dsimp only
        rw [decide_eq_true (by omega : (i : Int) < (m : Int)), cnd_t, p_next, bnd_mk, app_ok' (by rw [numsOf_len, List.length_singleton]; omega), bnd_mk, wr_id (x := (i : Int) + 1) (by omega) (by omega), numsOf_succ]
        rfl
    rw [key m (Nat.le_refl _), loopP_done (r := (numsOf l (j + 1) m, PS l e (j + 1 + m), ())) (by dsimp only; rw [decide_eq_false (by omega : ¬ (m : Int) < (m : Int))]; rfl)]
    rfl
  · intro h
    refine ⟨[], j + 1, ?_⟩
    unfold snap_reader_list
    dsimp only
    rw [(p_manyr l hl e j 1 (by omega)).2 h, bnd_mk, loopP_done (r := ([], PS l true (j + 1), ())) (by dsimp only; rfl)]
    rfl
end Go.Proofs.YtggmomkohmcciacGreat.F
