/- Numbers as states: what is read of any numbers. -/
import Derived.Test.YtggmomkohmcciacGreatP41BSnapDecodes
set_option linter.unusedVariables false
set_option linter.unusedSimpArgs false
namespace Go.Proofs.YtggmomkohmcciacGreat.F
open Go.VX
open Classical
theorem ps_first (l : List Int) : ((PS l false 1).1, !decide (nth 0 l 0 = 1), (PS l false 1).2.2) = PS l (!decide (nth 0 l 0 = 1)) 1 := by
  unfold PS
  dsimp only
  by_cases h : l.length < 1
  · rw [nth_out 0 l (by omega), decide_eq_true h]; rfl
  · rw [decide_eq_false h, Bool.or_false]
theorem ps_zero (l : List Int) : ((l, false, ()) : RdD) = PS l false 0 := by
  unfold PS
  rw [List.drop_zero, decide_eq_false (by omega : ¬ l.length < 0)]
  rfl
theorem many_two (l : List Int) (j : Nat) (h : ManyOk l j 2) : ∃ m : Nat, nth 0 l j = (m : Int) ∧ 2 * m ≤ l.length - (j + 1) := by
  obtain ⟨h0, h1⟩ := h
  exact ⟨(nth 0 l j).toNat, by omega, by omega⟩
theorem parse_many (l : List Int) (m k q : Nat) (h : ParseP l m k q) : ManyOk l 12 2 ∧ ManyOk l (13 + 2 * m) 1 ∧ ManyOk l (15 + 2 * m + k) 1 := by
  obtain ⟨_, _, _, h12, hk, hq, hl⟩ := h
  unfold ManyOk
  rw [h12, hk, hq, Int.ediv_one, Int.ediv_one]
  refine ⟨⟨by omega, ?_⟩, ⟨by omega, by omega⟩, by omega, by omega⟩
  omega
theorem parse_same (l : List Int) (m k q m' k' q' : Nat) (h : ParseP l m k q) (h12 : nth 0 l 12 = (m' : Int)) : m = m' ∧ (nth 0 l (13 + 2 * m') = (k' : Int) → k = k' ∧ (nth 0 l (15 + 2 * m' + k') = (q' : Int) → q = q')) := by
  obtain ⟨_, _, _, e12, ek, eq, _⟩ := h
  have hm : m = m' := by omega
  subst hm
  refine ⟨rfl, fun hk => ?_⟩
  have hk' : k = k' := by omega
  subst hk'
  exact ⟨rfl, fun hq => by omega⟩
def zSt : StateD := (0, 0, 0, (false, 0, 0, ()), ((false, 0, 0, ()), 0, 0, ()), [], [], (0, [], ()), ())
theorem kept_read (l : List Int) (e : Bool) (j m : Nat) (hm : m ≤ 1000000) (n1 n2 n3 : Int) (w1 : WatchD) (c : CutSD) : ∀ i : Nat, i ≤ m →
    loopP (fun (s11 : Int × (List (Int) × (Bool × Unit)) × StateD × Unit) => cnd (decide (s11.1 < (m : Int))) (bnd (snap_reader_next (((), ()), (s11.2.1, ()))) fun r12 => bnd (snap_reader_next (((), ()), (r12.2.1, ()))) fun r13 => bnd (app 8796093022208 s11.2.2.1.2.2.2.2.2.1 [(r12.1, r13.1, ())]) fun v14 => inlE (wr .i64 (s11.1 + 1), r13.2.1, (s11.2.2.1.1, s11.2.2.1.2.1, s11.2.2.1.2.2.1, s11.2.2.1.2.2.2.1, s11.2.2.1.2.2.2.2.1, v14, s11.2.2.1.2.2.2.2.2.2), ())) (inrE (some (s11.2.1, s11.2.2.1, ())))) (0, PS l e j, (n1, n2, n3, w1, c, [], [], (0, [], ()), ()), ()) =
    loopP (fun (s11 : Int × (List (Int) × (Bool × Unit)) × StateD × Unit) => cnd (decide (s11.1 < (m : Int))) (bnd (snap_reader_next (((), ()), (s11.2.1, ()))) fun r12 => bnd (snap_reader_next (((), ()), (r12.2.1, ()))) fun r13 => bnd (app 8796093022208 s11.2.2.1.2.2.2.2.2.1 [(r12.1, r13.1, ())]) fun v14 => inlE (wr .i64 (s11.1 + 1), r13.2.1, (s11.2.2.1.1, s11.2.2.1.2.1, s11.2.2.1.2.2.1, s11.2.2.1.2.2.2.1, s11.2.2.1.2.2.2.2.1, v14, s11.2.2.1.2.2.2.2.2.2), ())) (inrE (some (s11.2.1, s11.2.2.1, ())))) ((i : Int), PS l e (j + 2 * i), (n1, n2, n3, w1, c, keptOf l j i, [], (0, [], ()), ()), ()) := by
  intro i
  induction i with
  | zero => intro _; rfl
  | succ i ih =>
    intro hi
    rw [ih (by omega)]
    refine loopP_step ?_
    dsimp only
    rw [decide_eq_true (by omega : (i : Int) < (m : Int)), cnd_t, p_next, bnd_mk, p_next, bnd_mk, app_ok' (by rw [keptOf_len, List.length_singleton]; omega), bnd_mk, wr_id (x := (i : Int) + 1) (by omega) (by omega), keptOf_succ]
    rfl
theorem kept_done (l : List Int) (e : Bool) (j m : Nat) (hm : m ≤ 1000000) (n1 n2 n3 : Int) (w1 : WatchD) (c : CutSD) :
    loopP (fun (s11 : Int × (List (Int) × (Bool × Unit)) × StateD × Unit) => cnd (decide (s11.1 < (m : Int))) (bnd (snap_reader_next (((), ()), (s11.2.1, ()))) fun r12 => bnd (snap_reader_next (((), ()), (r12.2.1, ()))) fun r13 => bnd (app 8796093022208 s11.2.2.1.2.2.2.2.2.1 [(r12.1, r13.1, ())]) fun v14 => inlE (wr .i64 (s11.1 + 1), r13.2.1, (s11.2.2.1.1, s11.2.2.1.2.1, s11.2.2.1.2.2.1, s11.2.2.1.2.2.2.1, s11.2.2.1.2.2.2.2.1, v14, s11.2.2.1.2.2.2.2.2.2), ())) (inrE (some (s11.2.1, s11.2.2.1, ())))) (0, PS l e j, (n1, n2, n3, w1, c, [], [], (0, [], ()), ()), ()) = some (PS l e (j + 2 * m), (n1, n2, n3, w1, c, keptOf l j m, [], (0, [], ()), ()), ()) := by
  rw [kept_read l e j m hm n1 n2 n3 w1 c m (Nat.le_refl _)]
  refine loopP_done ?_
  dsimp only
  rw [decide_eq_false (by omega : ¬ (m : Int) < (m : Int))]
  rfl
theorem p_reads (l : List Int) (hl : l.length ≤ 1000000) : ∃ s b l', snap_reader_state (((), ()), ((l, false, ()), ())) = some (s, ((l', b, ()), ())) ∧ ((b = false ∧ numsS s = l) ∨ (b = true ∧ ∀ s', numsS s' ≠ l)) := by
  obtain ⟨e0, he0⟩ : ∃ e0, e0 = (((!decide (nth 0 l 0 = 1)) || !decide (nth 0 l 4 = 0 ∨ nth 0 l 4 = 1)) || !decide (nth 0 l 7 = 0 ∨ nth 0 l 7 = 1)) := ⟨_, rfl⟩
  unfold snap_reader_state
  dsimp only
  rw [ps_zero, p_next, bnd_mk]
  dsimp only
  rw [ps_first, p_next, bnd_mk, p_next, bnd_mk, p_next, bnd_mk, p_watchr, bnd_mk, p_watchr, bnd_mk, p_next, bnd_mk, p_next, bnd_mk, ← he0]
  dsimp only [Nat.reduceAdd]
  -- the rest goes on with a mark that is set
  have bad : ∀ (l' : List Int) (e : Bool) (x : StateD), e = true → (∀ s', numsS s' ≠ l) → True := fun _ _ _ _ _ => trivial
  have hwhole : ∀ s', numsS s' = l → ∃ m k q, ParseP l m k q := fun s' h => ⟨_, _, _, h ▸ nums_parse s'⟩
  -- behind a list
  have tail : ∀ (e : Bool) (J : Nat) (S : StateD → Prop) (n1 n2 n3 : Int) (w1 : WatchD) (c : CutSD) (ke : List KeptD) (r15 : List Int × (RdD × Unit)), r15.2.1 = PS l true J → (∀ s', numsS s' ≠ l) →
      ∃ s b l', (bnd (snap_reader_next (((), ()), (r15.2.1, ()))) fun r16 => bnd (snap_reader_list (((), ()), (r16.2.1, ()))) fun r17 => bnd (cnd (!r17.2.1.2.1) (some (decide ((r17.2.1.1.length : Int) > 0))) (some true)) fun j18 => some ((n1, n2, n3, w1, c, ke, r15.1, (r16.1, r17.1, ()), ()), ((r17.2.1.1, j18, r17.2.1.2.2), ()))) = some (s, ((l', b, ()), ())) ∧ ((b = false ∧ numsS s = l) ∨ (b = true ∧ ∀ s', numsS s' ≠ l)) := by
    intro e J S n1 n2 n3 w1 c ke r15 hr hn
    rw [hr, p_next, bnd_mk]
    dsimp only
    by_cases hq : ManyOk l (J + 1) 1
    · obtain ⟨q, hq1, hq2⟩ := many_one l (J + 1) hq
      rw [(p_listr l hl true (J + 1)).1 q hq1 hq2, bnd_mk]
      exact ⟨_, _, _, rfl, .inr ⟨rfl, hn⟩⟩
    · obtain ⟨x, j', hx⟩ := (p_listr l hl true (J + 1)).2 hq
      rw [hx, bnd_mk]
      exact ⟨_, _, _, rfl, .inr ⟨rfl, hn⟩⟩
  by_cases hm : ManyOk l 12 2
  · obtain ⟨m, hm1, hm2⟩ := many_two l 12 hm
    rw [(p_manyr l hl e0 12 2 (by omega)).1 hm, bnd_mk]
    dsimp only
    rw [hm1, kept_done l e0 13 m (by omega), bnd_mk]
    dsimp only
    by_cases hk : ManyOk l (13 + 2 * m) 1
    · obtain ⟨k, hk1, hk2⟩ := many_one l _ hk
      rw [(p_listr l hl e0 (13 + 2 * m)).1 k hk1 hk2, bnd_mk, p_next, bnd_mk]
      dsimp only
      rw [show 13 + 2 * m + 1 + k + 1 = 15 + 2 * m + k by omega]
      by_cases hq : ManyOk l (15 + 2 * m + k) 1
      · obtain ⟨q, hq1, hq2⟩ := many_one l _ hq
        rw [(p_listr l hl e0 (15 + 2 * m + k)).1 q hq1 hq2, bnd_mk]
        dsimp only
        have hJ : 15 + 2 * m + k + 1 + q = 16 + 2 * m + k + q := by omega
        rw [hJ]
        have hflag : (bnd (cnd (!(PS l e0 (16 + 2 * m + k + q)).2.1) (some (decide (((PS l e0 (16 + 2 * m + k + q)).1.length : Int) > 0))) (some true)) fun j18 => (some j18 : Option Bool)) = some (!decide (ParseP l m k q)) := by
          unfold PS
          dsimp only
          rw [List.length_drop]
          by_cases hP : ParseP l m k q
          · rw [decide_eq_true hP]
            obtain ⟨h0, h4, h7, _, _, _, hlen⟩ := hP
            rw [he0, decide_eq_true h0, decide_eq_true h4, decide_eq_true h7, decide_eq_false (by omega : ¬ l.length < 16 + 2 * m + k + q), decide_eq_false (by omega : ¬ ((l.length - (16 + 2 * m + k + q) : Nat) : Int) > 0)]
            rfl
          · rw [decide_eq_false hP]
            by_cases hlt : l.length < 16 + 2 * m + k + q
            · rw [decide_eq_true hlt, Bool.or_true]; rfl
            rw [decide_eq_false hlt, Bool.or_false]
            by_cases hgt : l.length > 16 + 2 * m + k + q
            · rw [decide_eq_true (by omega : ((l.length - (16 + 2 * m + k + q) : Nat) : Int) > 0)]
              cases e0 <;> rfl
            have : e0 = true := by
              cases he : e0 with
              | true => rfl
              | false =>
                rw [he] at he0
                have h3 := he0.symm
                simp only [Bool.or_eq_false_iff, Bool.not_eq_false', decide_eq_true_eq] at h3
                exact (hP ⟨h3.1.1, h3.1.2, h3.2, hm1, hk1, hq1, by omega⟩).elim
            rw [this]
            rfl
        have hsplit : ∀ {β : Type} (x : Option Bool) (K : Bool → Option β), bnd x K = bnd (bnd x fun j => some j) K := fun x K => by cases x <;> rfl
        rw [hsplit, hflag, bnd_mk]
        refine ⟨_, _, _, rfl, ?_⟩
        by_cases hP : ParseP l m k q
        · left
          refine ⟨by rw [decide_eq_true hP]; rfl, ?_⟩
          have := parse_nums l m k q hP
          unfold stateOf at this
          rw [show 13 + 2 * m + 1 = 14 + 2 * m by omega, show 15 + 2 * m + k + 1 = 16 + 2 * m + k by omega]
          exact this
        · right
          refine ⟨by rw [decide_eq_false hP]; rfl, fun s' hs => ?_⟩
          obtain ⟨m', k', q', hP'⟩ := hwhole s' hs
          obtain ⟨rfl, h2⟩ := parse_same l m' k' q' m k q hP' hm1
          obtain ⟨rfl, h3⟩ := h2 hk1
          have := h3 hq1
          subst this
          exact hP hP'
      · obtain ⟨x, j', hx⟩ := (p_listr l hl e0 (15 + 2 * m + k)).2 hq
        rw [hx, bnd_mk]
        refine ⟨_, _, _, rfl, .inr ⟨rfl, fun s' hs => ?_⟩⟩
        obtain ⟨m', k', q', hP'⟩ := hwhole s' hs
        obtain ⟨rfl, h2⟩ := parse_same l m' k' q' m k 0 hP' hm1
        obtain ⟨rfl, _⟩ := h2 hk1
        exact hq (parse_many l _ _ _ hP').2.2
    · obtain ⟨x, j', hx⟩ := (p_listr l hl e0 (13 + 2 * m)).2 hk
      rw [hx, bnd_mk]
      refine tail true j' (fun _ => True) _ _ _ _ _ _ (x, (PS l true j', ())) rfl (fun s' hs => ?_)
      obtain ⟨m', k', q', hP'⟩ := hwhole s' hs
      obtain ⟨rfl, _⟩ := parse_same l m' k' q' m 0 0 hP' hm1
      exact hk (parse_many l _ _ _ hP').2.1
  · have hn : ∀ s', numsS s' ≠ l := fun s' hs => by
      obtain ⟨m', k', q', hP'⟩ := hwhole s' hs
      exact hm (parse_many l _ _ _ hP').1
    rw [(p_manyr l hl e0 12 2 (by omega)).2 hm, bnd_mk]
    dsimp only
    have hd := kept_done l true 13 0 (by omega) (nth 0 l 1) (nth 0 l 2) (nth 0 l 3) (decide (nth 0 l 4 = 1), nth 0 l 5, nth 0 l 6, ()) ((decide (nth 0 l 7 = 1), nth 0 l 8, nth 0 l 9, ()), nth 0 l 10, nth 0 l 11, ())
    rw [show ((0 : Nat) : Int) = 0 from rfl] at hd
    rw [hd, bnd_mk]
    dsimp only
    by_cases hk : ManyOk l (13 + 2 * 0) 1
    · obtain ⟨k, hk1, hk2⟩ := many_one l _ hk
      rw [(p_listr l hl true (13 + 2 * 0)).1 k hk1 hk2, bnd_mk]
      exact tail true _ (fun _ => True) _ _ _ _ _ _ (numsOf l (13 + 2 * 0 + 1) k, (PS l true (13 + 2 * 0 + 1 + k), ())) rfl hn
    · obtain ⟨x, j', hx⟩ := (p_listr l hl true (13 + 2 * 0)).2 hk
      rw [hx, bnd_mk]
      exact tail true _ (fun _ => True) _ _ _ _ _ _ (x, (PS l true j', ())) rfl hn
end Go.Proofs.YtggmomkohmcciacGreat.F
