/- Steps that are kept: those ahead of which fewer others stand. -/
import Derived.Test.YtggmomkohmcciabP32ASwapSelf
import Derived.Test.YtggmomkohmcciabPJSwapSelf
import Derived.Test.YtggmomkohmcciabP0LSwapSelf
set_option linter.unusedVariables false
set_option linter.unusedSectionVars false
set_option linter.unusedSimpArgs false
namespace Go.Proofs.Ytggmomkohmcciab.F
open Go.VX
open Classical
noncomputable def atS (most : Bool) (x : KpD) : List KpD → Nat
  | [] => 0
  | y :: r => if AheadB most x y then 0 else atS most x r + 1
theorem atS_le (most : Bool) (x : KpD) : ∀ l, atS most x l ≤ l.length
  | [] => Nat.le_refl _
  | y :: r => by
    have := atS_le most x r
    rw [atS, List.length_cons]
    split <;> omega
theorem atS_no (most : Bool) (x : KpD) : ∀ l j, j < atS most x l → ¬ AheadB most x (nth zKp l j)
  | [], j, h => by simp [atS] at h
  | y :: r, j, h => by
    rw [atS] at h
    split at h
    · omega
    · rename_i hn
      cases j with
      | zero => exact hn
      | succ j => exact atS_no most x r j (by omega)
theorem atS_yes (most : Bool) (x : KpD) : ∀ l, atS most x l < l.length → AheadB most x (nth zKp l (atS most x l))
  | [], h => by simp at h
  | y :: r, h => by
    rw [atS] at h ⊢
    split at h
    · rename_i hy
      rw [if_pos hy]
      exact hy
    · rename_i hy
      rw [if_neg hy]
      exact atS_yes most x r (by rw [List.length_cons] at h; omega)
noncomputable def putL' (most : Bool) (l : List KpD) (x : KpD) : List KpD := l.take (atS most x l) ++ [x] ++ l.drop (atS most x l)
theorem putL_len (most : Bool) (l : List KpD) (x : KpD) : (putL' most l x).length = l.length + 1 := by
  have := atS_le most x l
  unfold putL'
  simp only [List.length_append, List.length_take, List.length_drop, List.length_cons, List.length_nil]
  omega
theorem putL_nth (most : Bool) (l : List KpD) (x : KpD) (p : Nat) : nth zKp (putL' most l x) p = if p < atS most x l then nth zKp l p else if p = atS most x l then x else nth zKp l (p - 1) := by
  have h := atS_le most x l
  unfold putL' nth List.getD
  rw [List.append_assoc, List.getElem?_append]
  by_cases h1 : p < atS most x l
  · rw [if_pos (by rw [List.length_take]; omega), if_pos h1, List.getElem?_take, if_pos h1]
  · rw [if_neg (by rw [List.length_take]; omega), if_neg h1, List.length_take, show min (atS most x l) l.length = atS most x l by omega]
    by_cases h2 : p = atS most x l
    · subst h2
      rw [if_pos rfl, Nat.sub_self]
      rfl
    · rw [if_neg h2, show p - atS most x l = (p - atS most x l - 1) + 1 by omega, List.singleton_append, List.getElem?_cons_succ, List.getElem?_drop]
      congr 2
      omega
noncomputable def zAhead (most : Bool) : ((KpD × (KpD × Unit)) → Option Bool) := fun a1 => bnd (best_of_1 ((a1.1, a1.2.1, (), ()), (most, ()))) some
theorem p_index (l : List KpD) (hl : l.length ≤ 1000000) (most : Bool) (x : KpD) (g : KpD × Unit → Option Bool) (hg : ∀ y ∈ l, g (y, ()) = some (decide (AheadB most x y))) :
    slices_IndexFunc_regimen_api_Kept_regimen_api_Kept (l, g, ()) = some (if atS most x l < l.length then (atS most x l : Int) else -1) := by
  unfold slices_IndexFunc_regimen_api_Kept_regimen_api_Kept
  dsimp only
  have hle := atS_le most x l
  refine scan_eq (fun i => ¬ AheadB most x (nth zKp l i.toNat)) 0 l.length (by omega) _ _ (fun i => i) _ (fun i i0 i1 => ?_) ?_ ?_
  · obtain ⟨k, rfl⟩ : ∃ k : Nat, i = k := ⟨i.toNat, by omega⟩
    have hk : k < l.length := by omega
    dsimp only
    rw [Int.toNat_natCast, lt_true hk, cnd_t, ati_d zKp hk, bnd_mk, hg _ (nth_mem hk), bnd_mk, wr_succ hk (by omega)]
    refine ⟨fun h => ?_, fun h => ?_⟩
    · rw [decide_eq_false h]; rfl
    · rw [decide_eq_true (Classical.not_not.1 h)]; rfl
  · dsimp only
    rw [lt_false]; rfl
  · by_cases h : atS most x l < l.length
    · refine .inl ⟨(atS most x l : Int), by omega, by omega, ?_, fun j j0 j1 => ?_, by rw [if_pos h]⟩
      · rw [Int.toNat_natCast]
        exact fun hn => hn (atS_yes most x l h)
      · exact atS_no most x l _ (by omega)
    · refine .inr ⟨fun j j0 j1 => atS_no most x l _ (by omega), by rw [if_neg h]⟩
theorem p_put (most : Bool) (c : Int) (out : List KpD) (x : KpD) (hl : out.length ≤ 1000) (hr : KRange out) (hx : In64 x.2.1) :
    best_shelf_put ((c, zAhead most, ()), out, x, ()) = some (if (out.length : Int) + 1 ≤ c then (putL' most out x, (0, 0, ()), false, ()) else ((putL' most out x).take out.length, nth zKp (putL' most out x) out.length, true, ())) := by
  have hle := atS_le most x out
  have hpl := putL_len most out x
  have hi := p_index out (by omega) most x (fun a1 => bnd (best_shelf_put_1 ((a1.1, (), (), ()), ((c, zAhead most, ()), x, ()))) some) (fun y hy => by
    unfold best_shelf_put_1 zAhead
    dsimp only
    rw [p_ahead x y most hx (hr y hy)]
    rfl)
  unfold best_shelf_put
  dsimp only
  rw [hi, bnd_mk]
  have hj : ∀ {β : Type} (K : Int × Unit → Option β), bnd (cnd (decide ((if atS most x out < out.length then (atS most x out : Int) else -1) < 0)) (some ((out.length : Int), ())) (some ((if atS most x out < out.length then (atS most x out : Int) else -1), ()))) K = K ((atS most x out : Int), ()) := fun K => by
    by_cases h : atS most x out < out.length
    · rw [if_pos h, decide_eq_false (by omega : ¬ (atS most x out : Int) < 0)]; rfl
    · rw [if_neg h, show out.length = atS most x out by omega]; rfl
  have hins : insL 8796093022208 out (atS most x out : Int) [x] = some (putL' most out x) := by
    unfold insL
    rw [if_pos (by simp; omega), Int.toNat_natCast]
    rfl
  rw [hj, show slices_Clone_regimen_api_Kept_regimen_api_Kept (out, ()) = some out from clone_ok out _ (by omega), bnd_mk, hins, bnd_mk, hpl]
  by_cases hc : (out.length : Int) + 1 ≤ c
  · rw [decide_eq_true (by omega : ((out.length + 1 : Nat) : Int) ≤ c), if_pos hc]; rfl
  · rw [decide_eq_false (by omega : ¬ ((out.length + 1 : Nat) : Int) ≤ c), if_neg hc, cnd_f, wr_id (x := ((out.length + 1 : Nat) : Int) - 1) (by omega) (by omega), show ((out.length + 1 : Nat) : Int) - 1 = (out.length : Int) by omega, inR_ok (by omega), bnd_mk, ati_d zKp (by omega), bnd_mk]
    have hs : sub (putL' most out x) 0 (out.length : Int) = some ((putL' most out x).take out.length) := by
      unfold sub
      rw [if_pos (by omega)]
      rfl
    rw [hs]
    rfl
section
variable (l : List KpD) (most : Bool)
def Bf (k i : Nat) : Prop := AheadB most (nth zKp l k) (nth zKp l i) ∨ ((nth zKp l k).2.1 = (nth zKp l i).2.1 ∧ k < i)
theorem bf_irr (i : Nat) : ¬ Bf l most i i := by
  unfold Bf AheadB
  cases most <;> simp
theorem bf_tr {a b c : Nat} (h1 : Bf l most a b) (h2 : Bf l most b c) : Bf l most a c := by
  unfold Bf AheadB at *
  cases most
  · simp only [Bool.false_eq_true, if_false] at *; omega
  · simp only [if_true] at *; omega
theorem bf_tot {a b : Nat} (h : a ≠ b) : Bf l most a b ∨ Bf l most b a := by
  unfold Bf AheadB
  cases most
  · simp only [Bool.false_eq_true, if_false]; omega
  · simp only [if_true]; omega
noncomputable def rk (i : Nat) : Nat → Nat
  | 0 => 0
  | n + 1 => rk i n + if Bf l most n i then 1 else 0
theorem rk_up {a b : Nat} (h : Bf l most a b) : ∀ n, rk l most a n + (if a < n then 1 else 0) ≤ rk l most b n
  | 0 => by simp [rk]
  | n + 1 => by
    have ih := rk_up h n
    simp only [rk]
    by_cases hn : Bf l most n a
    · have hb := bf_tr l most hn h
      have hna : n ≠ a := fun e => bf_irr l most a (e ▸ hn)
      rw [if_pos hn, if_pos hb]
      by_cases hl : a < n
      · rw [if_pos hl] at ih; rw [if_pos (by omega)]; omega
      · rw [if_neg hl] at ih; rw [if_neg (by omega)]; omega
    · rw [if_neg hn]
      by_cases hna : n = a
      · subst hna
        rw [if_pos h, if_pos (by omega)]
        rw [if_neg (by omega)] at ih
        omega
      · by_cases hl : a < n
        · rw [if_pos hl] at ih; rw [if_pos (by omega)]; omega
        · rw [if_neg hl] at ih; rw [if_neg (by omega)]; omega
theorem rk_le (i : Nat) : ∀ n, rk l most i n ≤ n
  | 0 => Nat.le_refl _
  | n + 1 => by
    have := rk_le i n
    simp only [rk]
    split <;> omega
theorem rk_lt {a b n : Nat} (ha : a < n) (h : Bf l most a b) : rk l most a n < rk l most b n := by
  have := rk_up l most h n
  rw [if_pos ha] at this
  omega
theorem rk_inj {a b n : Nat} (ha : a < n) (hb : b < n) (h : rk l most a n = rk l most b n) : a = b := by
  by_cases hab : a = b
  · exact hab
  · rcases bf_tot l most hab with k | k
    · have := rk_lt l most ha k; omega
    · have := rk_lt l most hb k; omega
def KeptR (c m : Nat) (out : List KpD) : Prop := out.length = min m c ∧ ∀ p, p < out.length → ∃ i, i < m ∧ rk l most i m = p ∧ nth zKp out p = nth zKp l i
theorem ahead_new {m i : Nat} (hi : i < m) : AheadB most (nth zKp l m) (nth zKp l i) ↔ Bf l most m i := by
  unfold Bf
  constructor
  · exact .inl
  · rintro (h | ⟨_, h⟩)
    · exact h
    · omega
theorem kept_step {c m : Nat} {out : List KpD} (h : KeptR l most c m out) :
    KeptR l most c (m + 1) (if out.length + 1 ≤ c then putL' most out (nth zKp l m) else (putL' most out (nth zKp l m)).take out.length) := by
  obtain ⟨h1, h2⟩ := h
  have hpl := putL_len most out (nth zKp l m)
  have hle := atS_le most (nth zKp l m) out
  obtain ⟨r, hr⟩ : ∃ r, r = rk l most m (m + 1) := ⟨_, rfl⟩
  have hrm : r = rk l most m m := by
    rw [hr]
    simp only [rk]
    rw [if_neg (bf_irr l most m)]
    omega
  have hrle := rk_le l most m m
  have hcmp : ∀ p i, i < m → rk l most i m = p → (AheadB most (nth zKp l m) (nth zKp l i) ↔ r ≤ p) := fun p i hi hp => by
    rw [ahead_new l most hi]
    have e : rk l most i (m + 1) = p + if Bf l most m i then 1 else 0 := by simp only [rk]; rw [hp]
    constructor
    · intro hb
      have := rk_lt l most (n := m + 1) (by omega) hb
      rw [e, if_pos hb, ← hr] at this
      omega
    · intro hp2
      rcases bf_tot l most (show m ≠ i by omega) with k | k
      · exact k
      · have := rk_lt l most (n := m + 1) (show i < m + 1 by omega) k
        rw [e, ← hr] at this
        by_cases hb : Bf l most m i
        · exact hb
        · rw [if_neg hb] at this; omega
  have hat : atS most (nth zKp l m) out = min r out.length := by
    have a1 := atS_no most (nth zKp l m) out
    by_cases hlt : atS most (nth zKp l m) out < out.length
    · have a2 := atS_yes most (nth zKp l m) out hlt
      obtain ⟨i, i1, i2, i3⟩ := h2 _ hlt
      rw [i3, hcmp _ i i1 i2] at a2
      by_cases h5 : r < atS most (nth zKp l m) out
      · obtain ⟨j, j1, j2, j3⟩ := h2 r (by omega)
        have := a1 r h5
        rw [j3, hcmp _ j j1 j2] at this
        omega
      · omega
    · by_cases h5 : r < out.length
      · obtain ⟨j, j1, j2, j3⟩ := h2 r h5
        have := a1 r (by omega)
        rw [j3, hcmp _ j j1 j2] at this
        omega
      · omega
  have main : ∀ p, p < (if out.length + 1 ≤ c then out.length + 1 else out.length) → ∃ i, i < m + 1 ∧ rk l most i (m + 1) = p ∧ nth zKp (putL' most out (nth zKp l m)) p = nth zKp l i := fun p hp => by
    have hp' : p < out.length + 1 := by split at hp <;> omega
    rw [putL_nth]
    by_cases c1 : p < atS most (nth zKp l m) out
    · rw [if_pos c1]
      obtain ⟨i, i1, i2, i3⟩ := h2 p (by omega)
      refine ⟨i, by omega, ?_, i3⟩
      have : ¬ Bf l most m i := fun hb => by
        have := (hcmp p i i1 i2).1 ((ahead_new l most i1).2 hb)
        omega
      simp only [rk]
      rw [if_neg this, i2, Nat.add_zero]
    · rw [if_neg c1]
      by_cases c2 : p = atS most (nth zKp l m) out
      · rw [if_pos c2]
        refine ⟨m, by omega, ?_, rfl⟩
        rw [← hr]
        by_cases h5 : r ≤ out.length
        · omega
        · exfalso
          split at hp <;> omega
      · rw [if_neg c2]
        obtain ⟨i, i1, i2, i3⟩ := h2 (p - 1) (by omega)
        refine ⟨i, by omega, ?_, i3⟩
        have : Bf l most m i := (ahead_new l most i1).1 ((hcmp (p - 1) i i1 i2).2 (by omega))
        simp only [rk]
        rw [if_pos this, i2]
        omega
  by_cases hc : out.length + 1 ≤ c
  · rw [if_pos hc]
    rw [if_pos hc] at main
    exact ⟨by rw [hpl]; omega, fun p hp => main p (by rw [hpl] at hp; exact hp)⟩
  · rw [if_neg hc]
    rw [if_neg hc] at main
    refine ⟨by rw [List.length_take, hpl]; omega, fun p hp => ?_⟩
    rw [List.length_take, hpl] at hp
    obtain ⟨i, i1, i2, i3⟩ := main p (by omega)
    refine ⟨i, i1, i2, ?_⟩
    rw [← i3]
    simp [nth, List.getD, List.getElem?_take, show p < out.length by omega]
end
theorem kept_range {l : List KpD} {most : Bool} {c m : Nat} {out : List KpD} (h : KeptR l most c m out) (hm : m ≤ l.length) (hr : KRange l) : KRange out := by
  intro x hx
  obtain ⟨p, hp, rfl⟩ : ∃ p, p < out.length ∧ nth zKp out p = x := by
    obtain ⟨i, hi, he⟩ := List.getElem_of_mem hx
    exact ⟨i, hi, by simp [nth, List.getD, hi, he]⟩
  obtain ⟨i, i1, _, i3⟩ := h.2 p hp
  rw [i3]
  exact hr _ (nth_mem (by omega))
theorem p_BestOf (l : List KpD) (count : Int) (most : Bool) (hl : l.length ≤ 1000) (hr : KRange l) (hc : count ≤ 9223372036854775807) : ∃ out, best_Of (l, count, most, ()) = some out ∧ KeptR l most count.toNat l.length out := by
  have hmx : maxL count [0] = (count.toNat : Int) := by
    simp only [maxL]
    split <;> omega
  unfold best_Of best_of
  dsimp only
  rw [hmx, bnd_mk]
  have key : ∀ m, m ≤ l.length → ∃ out, KeptR l most count.toNat m out ∧
      loopP (fun (s3 : List (KpD) × Int × Unit) => cnd (decide (s3.2.1 < (l.length : Int))) (bnd (ati l s3.2.1) fun v4 => bnd (best_shelf_put (((count.toNat : Int), zAhead most, ()), s3.1, v4, ())) fun r5 => inlE (r5.1, wr .i64 (s3.2.1 + 1), ())) (inrE (some (s3.1, ())))) ([], 0, ()) =
      loopP (fun (s3 : List (KpD) × Int × Unit) => cnd (decide (s3.2.1 < (l.length : Int))) (bnd (ati l s3.2.1) fun v4 => bnd (best_shelf_put (((count.toNat : Int), zAhead most, ()), s3.1, v4, ())) fun r5 => inlE (r5.1, wr .i64 (s3.2.1 + 1), ())) (inrE (some (s3.1, ())))) (out, (m : Int), ()) := by
    intro m
    induction m with
    | zero => intro _; exact ⟨[], ⟨by simp, fun p hp => by simp at hp⟩, rfl⟩
    | succ m ih =>
      intro hm
      obtain ⟨out, h1, h2⟩ := ih (by omega)
      refine ⟨_, kept_step l most h1, ?_⟩
      rw [h2]
      refine loopP_step ?_
      have hol := h1.1
      dsimp only
      rw [lt_true hm, cnd_t, ati_d zKp hm, bnd_mk, p_put most _ out _ (by omega) (kept_range h1 (by omega) hr) (hr _ (nth_mem hm)), bnd_mk, wr_succ hm (by omega)]
      by_cases hc : out.length + 1 ≤ count.toNat
      · rw [if_pos (by omega), if_pos hc]; rfl
      · rw [if_neg (by omega), if_neg hc]; rfl
  obtain ⟨out, h1, h2⟩ := key l.length (Nat.le_refl _)
  refine ⟨out, ?_, h1⟩
  have h3 := h2.trans (loopP_done (r := (out, ())) (by dsimp only; rw [lt_false]; rfl))
  exact (congrArg (fun z => bnd z fun j2 => some j2.1) h3).trans rfl
end Go.Proofs.Ytggmomkohmcciab.F
