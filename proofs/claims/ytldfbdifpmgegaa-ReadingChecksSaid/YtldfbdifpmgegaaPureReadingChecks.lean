/- The law ReadingChecks, in plain Lean: which inputs any plan takes. -/
import Derived.Test.YtldfbdifpmgegaaVx3
import Derived.Test.YtldfbdifpmgegaaFReadingChecks
set_option linter.unusedVariables false
set_option linter.unusedSimpArgs false
namespace Go.Proofs.Ytldfbdifpmgegaa.F
open Go.VX
open Classical

abbrev CurveD := Int × Int × Int × Int × Unit
abbrev SegD := Int × Int × Int × Int × CurveD × Int × Int × Unit
abbrev TrackD := Int × Int × List SegD × Unit
abbrev SpanD := Int × Int × Unit

def CurveOk (c : CurveD) : Prop := 0 ≤ c.2.1 ∧ c.2.1 ≤ 4503599627370496 ∧ 0 ≤ c.2.2.1 ∧ c.2.2.1 ≤ 4503599627370496 ∧ ((c.1 = 1 ∧ c.2.2.1 = 0 ∧ c.2.2.2.1 = 0) ∨ ((c.1 = 2 ∨ c.1 = 5) ∧ c.2.2.2.1 = 0) ∨ (c.1 = 3 ∧ 1 ≤ c.2.2.2.1 ∧ c.2.2.2.1 ≤ 16) ∨ (c.1 = 4 ∧ c.2.2.1 ≤ c.2.1 ∧ 0 ≤ c.2.2.2.1 ∧ c.2.2.2.1 ≤ 4294967296))

theorem p_curve (c : CurveD) : curve_Check (c, ()) = some (if CurveOk c then 0 else 1) := by
  obtain ⟨a, b, d, e, _⟩ := c
  unfold curve_Check curve_bent curve_within CurveOk
  simp only [bnd_mk, cnd_if, ite_some]
  congr 1
  apply if_swap
  by_cases h1 : a = 1
  · subst h1; simp; omega
  by_cases h2 : a = 2
  · subst h2; simp; omega
  by_cases h3 : a = 3
  · subst h3; simp; omega
  by_cases h4 : a = 4
  · subst h4; simp; omega
  by_cases h5 : a = 5
  · subst h5; simp; omega
  simp [h1, h2, h3, h4, h5]
theorem r_curve (c : CurveD) : regimenref09_May (c, ()) = some (decide (CurveOk c)) := by
  obtain ⟨a, b, d, e, _⟩ := c
  unfold regimenref09_May CurveOk
  simp only [bnd_mk, cnd_if, ite_some]
  congr 1
  rw [Bool.eq_iff_iff]
  by_cases h1 : a = 1
  · subst h1; simp; omega
  by_cases h2 : a = 2
  · subst h2; simp; omega
  by_cases h3 : a = 3
  · subst h3; simp; omega
  by_cases h4 : a = 4
  · subst h4; simp; omega
  by_cases h5 : a = 5
  · subst h5; simp; omega
  simp [h1, h2, h3, h4, h5]

def SegOk (s : SegD) : Prop := 0 ≤ s.1 ∧ s.1 < s.2.1 ∧ s.2.1 ≤ 1048576 ∧ 0 ≤ s.2.2.1 ∧ s.2.2.1 ≤ s.1 ∧ CurveOk s.2.2.2.2.1 ∧ ((s.2.2.2.2.2.1 = 0 ∧ s.2.2.2.2.2.2.1 = 0 ∧ s.2.1 - s.2.2.1 ≤ s.2.2.2.1 ∧ s.2.2.2.1 ≤ 1048576) ∨ (1 ≤ s.2.2.2.2.2.1 ∧ s.2.2.2.2.2.1 ≤ 1048576 ∧ 1 ≤ s.2.2.2.2.2.2.1 ∧ s.2.2.2.2.2.2.1 ≤ 16 ∧ s.2.2.2.1 = 0))

theorem p_seg (s : SegD) : segs_may (s, ()) = some (decide (SegOk s)) := by
  obtain ⟨a, b, d, e, c, f, g, _⟩ := s
  unfold segs_may segs_within SegOk
  dsimp only
  rw [p_curve]
  simp only [bnd_mk, cnd_if, ite_some]
  congr 1
  rw [Bool.eq_iff_iff]
  by_cases hab : 0 ≤ a ∧ a < b ∧ b ≤ 1048576 ∧ 0 ≤ d ∧ d ≤ a
  · have hw : wr .i64 (b - d) = b - d := wr_id (by omega) (by omega)
    rw [hw]
    by_cases hc : CurveOk c
    · by_cases hf : f = 0
      · subst hf; simp [hc]; omega
      · simp [hc, hf]; omega
    · simp [hc]
  · by_cases hc : CurveOk c
    · simp [hc]; omega
    · simp [hc]
theorem r_seg (s : SegD) : regimenref24_One (s, ()) = some (decide (SegOk s)) := by
  obtain ⟨a, b, d, e, c, f, g, _⟩ := s
  unfold regimenref24_One SegOk
  dsimp only
  rw [r_curve]
  simp only [bnd_mk, cnd_if, ite_some]
  congr 1
  rw [Bool.eq_iff_iff]
  by_cases hab : 0 ≤ a ∧ a < b ∧ b ≤ 1048576 ∧ 0 ≤ d ∧ d ≤ a
  · have hw : wr .i64 (b - d) = b - d := wr_id (by omega) (by omega)
    rw [hw]
    by_cases hc : CurveOk c
    · by_cases hf : f = 0
      · subst hf; simp [hc]; omega
      · simp [hc, hf]; omega
    · simp [hc]
  · by_cases hc : CurveOk c
    · simp [hc]; omega
    · simp [hc]

abbrev zSeg : SegD := (0, 0, 0, 0, (0, 0, 0, 0, ()), 0, 0, ())
def SegsOk (l : List SegD) : Prop := ∀ i, i < l.length → SegOk (nth zSeg l i) ∧ (0 < i → (nth zSeg l i).1 = (nth zSeg l (i - 1)).2.1)

theorem p_segs (l : List SegD) (hl : l.length ≤ 9223372036854775807) : segs_Check (l, ()) = some (if SegsOk l ∧ 0 < l.length then 0 else 1) := by
  unfold segs_Check
  dsimp only
  rw [all_as (SegsOk l) l.length (fun i => SegOk (nth zSeg l i) ∧ (0 < i → (nth zSeg l i).1 = (nth zSeg l (i - 1)).2.1)) _ (.inr 1) (.inl ()) Iff.rfl]
  · rw [bndS_ite]
    simp only [cnd_if, ite_some]
    by_cases h : SegsOk l <;> by_cases h0 : 0 < l.length
    · rw [if_pos h, if_neg (by rw [decide_eq_true_eq]; omega), if_pos ⟨h, h0⟩]
    · rw [if_pos h, if_pos (by rw [decide_eq_true_eq]; omega), if_neg fun x => h0 x.2]
    · rw [if_neg h, if_neg fun x => h x.1]
    · rw [if_neg h, if_neg fun x => h x.1]
  · intro i hi _
    dsimp only
    rw [lt_true hi, cnd_t, ati_d zSeg hi, bnd_mk, p_seg, bnd_mk, wr_succ hi hl]
    by_cases h0 : 0 < i
    · rw [ati_pred zSeg h0 hi hl]
      simp only [bnd_mk, cnd_if, ite_some, inrE_mk, inlE]
      have hi0 : (i : Int) > 0 := by omega
      by_cases h1 : SegOk (nth zSeg l i) <;> by_cases h2 : (nth zSeg l (i - 1)).2.1 = (nth zSeg l i).1
      · simp [h0, h1, h2, hi0]
      · simp [h0, h1, h2, hi0]
        exact fun e => h2 (Eq.symm e)
      · simp [h0, h1, h2, hi0]
      · simp [h0, h1, h2, hi0]
    · have hi0 : ¬ (i : Int) > 0 := by omega
      simp only [bnd_mk, cnd_if, ite_some, inrE_mk, inlE]
      by_cases h1 : SegOk (nth zSeg l i)
      · simp [h0, h1, hi0, bnd_mk]
      · simp [h0, h1, hi0, bnd_mk]
  · intro _
    dsimp only
    rw [lt_false, cnd_f]
    rfl
theorem r_segs (l : List SegD) (hl : l.length ≤ 9223372036854775807) : regimenref24_May (l, ()) = some (decide (SegsOk l ∧ 0 < l.length)) := by
  unfold regimenref24_May
  dsimp only
  rw [all_as (SegsOk l) l.length (fun i => SegOk (nth zSeg l i) ∧ (0 < i → (nth zSeg l i).1 = (nth zSeg l (i - 1)).2.1)) _ (.inr false) (.inl ()) Iff.rfl]
  · rw [bndS_ite]
    by_cases h : SegsOk l
    · rw [if_pos h]
      simp [h]
    · rw [if_neg h]
      simp [h]
  · intro i hi _
    dsimp only
    rw [lt_true hi, cnd_t, ati_d zSeg hi, bnd_mk, r_seg, bnd_mk, wr_succ hi hl]
    by_cases h0 : 0 < i
    · rw [ati_pred zSeg h0 hi hl]
      simp only [bnd_mk, cnd_if, ite_some, inrE_mk, inlE]
      have hi0 : (i : Int) > 0 := by omega
      by_cases h1 : SegOk (nth zSeg l i) <;> by_cases h2 : (nth zSeg l i).1 = (nth zSeg l (i - 1)).2.1
      all_goals simp [h0, h1, h2, hi0]
    · have hi0 : ¬ (i : Int) > 0 := by omega
      simp only [bnd_mk, cnd_if, ite_some, inrE_mk, inlE]
      by_cases h1 : SegOk (nth zSeg l i)
      · simp [h0, h1, hi0, bnd_mk]
      · simp [h0, h1, hi0, bnd_mk]
  · intro _
    dsimp only
    rw [lt_false, cnd_f]
    rfl

abbrev zSpan : SpanD := (0, 0, ())
def SpanOk (l : List SpanD) (i : Nat) : Prop := (nth zSpan l i).1 < (nth zSpan l i).2.1 ∧ (nth zSpan l i).1 = if i = 0 then 0 else (nth zSpan l (i - 1)).2.1

theorem p_spans (p) (l : List SpanD) (e : p.2.2.2.2.2.1 = l) (hl : l.length ≤ 9223372036854775807) : plan_spans (p, ()) = some (decide ((∀ i, i < l.length → SpanOk l i) ∧ (if l.length = 0 then 0 else (nth zSpan l (l.length - 1)).2.1) = p.1 ∧ l.length ≤ 16)) := by
  subst e
  unfold plan_spans
  dsimp only
  obtain ⟨r, e, h⟩ := loop_rule (ρ := (Int × Unit) ⊕ Bool) (f := (fun (s2 : Int × Int × Unit) => cnd (decide (s2.2.1 < (p.2.2.2.2.2.1.length : Int))) (bnd (ati p.2.2.2.2.2.1 s2.2.1) fun v3 => bnd (cnd (!(!decide (v3.1 = s2.1))) (some (decide (v3.2.1 ≤ s2.1))) (some true)) fun j4 => cnd j4 (inrE (inrE (some false))) (inlE (v3.2.1, wr .i64 (s2.2.1 + 1), ()))) (inrE (inlE (s2.1, ())))))
    (fun s => 0 ≤ s.2.1 ∧ s.2.1 ≤ p.2.2.2.2.2.1.length ∧ s.1 = (if s.2.1.toNat = 0 then 0 else (nth zSpan p.2.2.2.2.2.1 (s.2.1.toNat - 1)).2.1) ∧ ∀ i, i < s.2.1.toNat → SpanOk p.2.2.2.2.2.1 i) (fun s => p.2.2.2.2.2.1.length - s.2.1.toNat)
    (fun r => (r = .inl ((if p.2.2.2.2.2.1.length = 0 then 0 else (nth zSpan p.2.2.2.2.2.1 (p.2.2.2.2.2.1.length - 1)).2.1), ()) ∧ ∀ i, i < p.2.2.2.2.2.1.length → SpanOk p.2.2.2.2.2.1 i) ∨ (r = .inr false ∧ ¬ ∀ i, i < p.2.2.2.2.2.1.length → SpanOk p.2.2.2.2.2.1 i)) (fun s ⟨i0, i1, i2, i3⟩ => by
      obtain ⟨at', i, _⟩ := s
      dsimp only at *
      obtain ⟨k, rfl⟩ : ∃ k : Nat, i = k := ⟨i.toNat, by omega⟩
      rw [Int.toNat_natCast] at i2
      by_cases hk : k < p.2.2.2.2.2.1.length
      · rw [lt_true hk, cnd_t, ati_d zSpan hk, bnd_mk, wr_succ hk hl]
        by_cases ho : SpanOk p.2.2.2.2.2.1 k
        · left
          have ho' := ho
          unfold SpanOk at ho'
          rw [← i2] at ho'
          refine ⟨((nth zSpan p.2.2.2.2.2.1 k).2.1, (k : Int) + 1, ()), ?_, ⟨by dsimp only; omega, by dsimp only; omega, ?_, fun j hj => ?_⟩, by dsimp only; omega⟩
          · rw [decide_eq_true ho'.2, decide_eq_false (by omega)]; rfl
          · dsimp only
            rw [if_neg (by omega)]
            congr 3
          · dsimp only at hj
            by_cases hjk : j = k
            · exact hjk ▸ ho
            · exact i3 j (by omega)
        · right
          refine ⟨.inr false, ?_, .inr ⟨rfl, fun h => ho (h k hk)⟩⟩
          have ho' := ho
          unfold SpanOk at ho'
          rw [← i2] at ho'
          by_cases h1 : (nth zSpan p.2.2.2.2.2.1 k).1 = at'
          · rw [decide_eq_true h1, decide_eq_true (by omega)]; rfl
          · rw [decide_eq_false h1]; rfl
      · right
        have hkn : k = p.2.2.2.2.2.1.length := by omega
        subst hkn
        rw [lt_false, cnd_f]
        refine ⟨_, rfl, .inl ⟨?_, fun j hj => i3 j (by omega)⟩⟩
        rw [← i2]) (0, 0, ()) ⟨Int.le_refl _, by dsimp only; omega, rfl, fun j hj => by simp at hj⟩
  rw [e]
  rcases h with ⟨rfl, h⟩ | ⟨rfl, h⟩
  · rw [bndS_l]
    simp only [bnd_mk, cnd_if, ite_some]
    congr 1
    generalize (if p.2.2.2.2.2.1.length = 0 then (0 : Int) else (nth zSpan p.2.2.2.2.2.1 (p.2.2.2.2.2.1.length - 1)).2.1) = a
    rw [Bool.eq_iff_iff]
    simp only [decide_eq_true_eq, Bool.if_false_right, Bool.and_eq_true]
    constructor
    · intro x
      exact ⟨h, x.1, by omega⟩
    · intro x
      exact ⟨x.2.1, by omega⟩
  · rw [bndS_r]
    simp [h]

theorem p_frozen (p) (l : List (List Bool)) (e : p.2.2.2.2.2.2.1 = l) (hl : l.length ≤ 9223372036854775807) : plan_frozen (p, ()) = some (decide ((∀ i, i < l.length → ((nth [] l i).length : Int) = p.2.2.2.1) ∧ l.length = p.2.2.2.2.2.1.length)) := by
  subst e
  unfold plan_frozen
  dsimp only
  rw [all_as (∀ i, i < p.2.2.2.2.2.2.1.length → ((nth [] p.2.2.2.2.2.2.1 i).length : Int) = p.2.2.2.1) p.2.2.2.2.2.2.1.length (fun i => ((nth [] p.2.2.2.2.2.2.1 i).length : Int) = p.2.2.2.1) _ (.inr false) (.inl ()) Iff.rfl]
  · rw [bndS_ite]
    simp only [ite_some]
    congr 1
    refine ite_dec ?_
    omega
  · intro i hi _
    dsimp only
    rw [lt_true hi, cnd_t, ati_d [] hi, bnd_mk, wr_succ hi hl]
    by_cases h : ((nth [] p.2.2.2.2.2.2.1 i).length : Int) = p.2.2.2.1
    · simp [h, cnd_if, inlE]
    · simp [h, cnd_if, inrE_mk]
  · intro _
    dsimp only
    rw [lt_false, cnd_f]
    rfl

abbrev zTrack : TrackD := (0, 0, [], ())
def TrackOk (steps : Int) (i : Nat) (t : TrackD) : Prop := t.1 = wr .i64 (Int.tdiv i 3) ∧ t.2.1 = Int.tmod i 3 ∧ SegsOk t.2.2.1 ∧ 0 < t.2.2.1.length ∧ (nth zSeg t.2.2.1 0).1 = 0 ∧ (nth zSeg t.2.2.1 (t.2.2.1.length - 1)).2.1 = steps
theorem r_whole (l : List SegD) (steps : Int) (hl : l.length ≤ 9223372036854775807) : regimenref28_whole (l, steps, ()) = some (decide (SegsOk l ∧ 0 < l.length ∧ (nth zSeg l 0).1 = 0 ∧ (nth zSeg l (l.length - 1)).2.1 = steps)) := by
  unfold regimenref28_whole
  dsimp only
  rw [r_segs l hl, bnd_mk]
  by_cases h : SegsOk l
  · by_cases h0 : 0 < l.length
    · rw [ati_0 zSeg h0, ati_last zSeg h0 hl]
      simp only [bnd_mk, cnd_if, ite_some]
      congr 1
      rw [Bool.eq_iff_iff]
      simp [h, h0]
    · simp [h, h0, cnd_if, bnd_mk]
  · simp [h, cnd_if, bnd_mk]
theorem p_tracks (p) (l : List TrackD) (e : p.2.2.2.2.2.2.2.1 = l) (hl : l.length ≤ 9223372036854775807) (hs : ∀ t ∈ l, t.2.2.1.length ≤ 9223372036854775807) : plan_tracks (p, ()) = some (decide ((∀ i, i < l.length → TrackOk p.1 i (nth zTrack l i)) ∧ (l.length : Int) = wr .i64 (p.2.2.2.1 * 3))) := by
  subst e
  unfold plan_tracks
  dsimp only
  rw [all_as (∀ i, i < p.2.2.2.2.2.2.2.1.length → TrackOk p.1 i (nth zTrack p.2.2.2.2.2.2.2.1 i)) p.2.2.2.2.2.2.2.1.length (fun i => TrackOk p.1 i (nth zTrack p.2.2.2.2.2.2.2.1 i)) _ (.inr false) (.inl ()) Iff.rfl]
  · rw [bndS_ite]
    simp only [ite_some]
    congr 1
    refine ite_dec Iff.rfl
  · intro i hi _
    dsimp only
    rw [lt_true hi, cnd_t, ati_d zTrack hi, bnd_mk, wr_succ hi hl]
    have hm : nth zTrack p.2.2.2.2.2.2.2.1 i ∈ p.2.2.2.2.2.2.2.1 := nth_mem hi
    have hls := hs _ hm
    rw [p_segs _ hls]
    unfold TrackOk
    generalize nth zTrack p.2.2.2.2.2.2.2.1 i = t at *
    generalize wr .i64 (Int.tdiv i 3) = u
    generalize Int.tmod (i : Int) 3 = v
    by_cases h1 : t.1 = u
    · by_cases h2 : t.2.1 = v
      · by_cases h3 : SegsOk t.2.2.1
        · by_cases h4 : 0 < t.2.2.1.length
          · rw [ati_0 zSeg h4, ati_last zSeg h4 hls]
            by_cases h5 : (nth zSeg t.2.2.1 0).1 = 0
            · by_cases h6 : (nth zSeg t.2.2.1 (t.2.2.1.length - 1)).2.1 = p.1
              · simp [h1, h2, h3, h4, h5, h6, cnd_if, bnd_mk, inlE, inrE_mk]
              · simp [h1, h2, h3, h4, h5, h6, cnd_if, bnd_mk, inlE, inrE_mk]
            · simp [h1, h2, h3, h4, h5, cnd_if, bnd_mk, inlE, inrE_mk]
          · simp [h1, h2, h3, h4, cnd_if, bnd_mk, inlE, inrE_mk]
        · simp [h1, h2, h3, cnd_if, bnd_mk, inlE, inrE_mk]
      · simp [h1, h2, cnd_if, bnd_mk, inlE, inrE_mk]
    · simp [h1, cnd_if, bnd_mk, inlE, inrE_mk]
  · intro _
    dsimp only
    rw [lt_false, cnd_f]
    rfl

theorem dec_wr (m : Int) (h0 : 0 ≤ m) (h : m ≤ 4) : wr .i64 (m - 1) = m - 1 := wr_id (by omega) (by omega)
abbrev PlanD := Int × Int × Int × Int × Int × List SpanD × List (List Bool) × List TrackD × (Bool × List Int × Bool × Int × Int × Bool × Unit) × (Bool × List Int × Bool × Int × Int × Int × Int × Int × Unit) × (Bool × List Int × Bool × Int × Unit) × (Bool × Int × Unit) × Int × Int × Int × Int × Int × Unit
abbrev tStop : Ty := .pr .bool (.pr .str (.pr .bool (.pr (.int .i64) (.pr (.int .i64) (.pr .bool .unit)))))
abbrev tCut : Ty := .pr .bool (.pr .str (.pr .bool (.pr (.int .i64) (.pr (.int .i64) (.pr (.int .i64) (.pr (.int .i64) (.pr (.int .i64) .unit)))))))
abbrev tKeep : Ty := .pr .bool (.pr .str (.pr .bool (.pr (.int .i64) .unit)))
abbrev StopD := Bool × List Int × Bool × Int × Int × Bool × Unit
abbrev CutD := Bool × List Int × Bool × Int × Int × Int × Int × Int × Unit
abbrev KeepD := Bool × List Int × Bool × Int × Unit
def SeenOk (metrics eval on : Int) (metric : List Int) (b : Bool) : Prop := 0 ≤ on ∧ on < metrics ∧ metric = [] ∧ b = true ∧ 0 < eval
def StopOk (a2 a4 on : Int) (s : StopD) : Prop := (on = -1 ∧ eqT tStop s (false, [], false, 0, 0, false, ()) = true) ∨ (on ≠ -1 ∧ SeenOk a2 a4 on s.2.1 s.1 ∧ 1 ≤ s.2.2.2.1 ∧ s.2.2.2.1 ≤ 1099511627776 ∧ 0 ≤ s.2.2.2.2.1 ∧ s.2.2.2.2.1 ≤ 4503599627370496)
def CutOk (a2 a4 on : Int) (s : CutD) : Prop := (on = -1 ∧ eqT tCut s (false, [], false, 0, 0, 0, 0, 0, ()) = true) ∨ (on ≠ -1 ∧ SeenOk a2 a4 on s.2.1 s.1 ∧ 1 ≤ s.2.2.2.2.1 ∧ s.2.2.2.2.1 ≤ 1099511627776 ∧ 0 ≤ s.2.2.2.2.2.2.2.1 ∧ s.2.2.2.2.2.2.2.1 ≤ 4503599627370496 ∧ 0 ≤ s.2.2.2.2.2.2.1 ∧ s.2.2.2.2.2.2.1 ≤ 4503599627370496 ∧ 0 ≤ s.2.2.2.1 ∧ s.2.2.2.1 ≤ 4294967295 ∧ 0 ≤ s.2.2.2.2.2.1 ∧ s.2.2.2.2.2.1 ≤ 1099511627776)
def KeepOk (a2 a4 on : Int) (s : KeepD) : Prop := (on = -1 ∧ eqT tKeep s (false, [], false, 0, ()) = true) ∨ (on ≠ -1 ∧ SeenOk a2 a4 on s.2.1 s.1 ∧ 1 ≤ s.2.2.2.1 ∧ s.2.2.2.1 ≤ 16)
def AvgOk (a0 sf se : Int) (em : Bool × Int × Unit) : Prop := (eqT (.pr .bool (.pr (.int .i64) .unit)) em (false, 0, ()) = true ∨ (em.1 = true ∧ 0 ≤ em.2.1 ∧ em.2.1 ≤ 4294967296)) ∧ ((se = 0 ∧ sf = 0) ∨ (1 ≤ se ∧ se ≤ 1099511627776 ∧ 0 ≤ sf ∧ sf ≤ a0))
section
variable (a0 a1 a2 a3 a4 : Int) (sp : List SpanD) (fz : List (List Bool)) (tr : List TrackD) (st : StopD) (cu : CutD) (ke : KeepD) (em : Bool × Int × Unit) (o1 o2 o3 sf se : Int)
theorem p_stop (h0 : 0 ≤ a2) (h : a2 ≤ 4) : plan_stop ((a0, a1, a2, a3, a4, sp, fz, tr, st, cu, ke, em, o1, o2, o3, sf, se, ()), ()) = some (decide (StopOk a2 a4 o1 st)) := by
  obtain ⟨b1, m1, c1, n1, n2, c2, _⟩ := st
  unfold plan_stop plan_seen plan_count plan_value plan_within StopOk SeenOk
  dsimp only
  rw [dec_wr _ h0 h]
  simp only [bnd_mk, cnd_if, ite_some]
  congr 1
  rw [Bool.eq_iff_iff]
  generalize eqT _ _ _ = b
  by_cases h1 : o1 = -1
  · simp [h1]
  · by_cases h2 : m1 = []
    · cases b1 <;> simp [h1, h2]
      omega
    · simp [h1, h2]
theorem p_cut (h0 : 0 ≤ a2) (h : a2 ≤ 4) : plan_cut ((a0, a1, a2, a3, a4, sp, fz, tr, st, cu, ke, em, o1, o2, o3, sf, se, ()), ()) = some (decide (CutOk a2 a4 o2 cu)) := by
  obtain ⟨b1, m1, c1, n1, n2, n3, n4, n5, _⟩ := cu
  unfold plan_cut plan_seen plan_count plan_value plan_within CutOk SeenOk
  dsimp only
  rw [dec_wr _ h0 h]
  simp only [bnd_mk, cnd_if, ite_some]
  congr 1
  rw [Bool.eq_iff_iff]
  generalize eqT _ _ _ = b
  by_cases h1 : o2 = -1
  · simp [h1]
  · by_cases h2 : m1 = []
    · cases b1 <;> simp [h1, h2]
      omega
    · simp [h1, h2]
theorem p_keep (h0 : 0 ≤ a2) (h : a2 ≤ 4) : plan_keep ((a0, a1, a2, a3, a4, sp, fz, tr, st, cu, ke, em, o1, o2, o3, sf, se, ()), ()) = some (decide (KeepOk a2 a4 o3 ke)) := by
  obtain ⟨b1, m1, c1, n1, _⟩ := ke
  unfold plan_keep plan_seen plan_within KeepOk SeenOk
  dsimp only
  rw [dec_wr _ h0 h]
  simp only [bnd_mk, cnd_if, ite_some]
  congr 1
  rw [Bool.eq_iff_iff]
  generalize eqT _ _ _ = b
  by_cases h1 : o3 = -1
  · simp [h1]
  · by_cases h2 : m1 = []
    · cases b1 <;> simp [h1, h2]
      omega
    · simp [h1, h2]
theorem p_avg : plan_averages ((a0, a1, a2, a3, a4, sp, fz, tr, st, cu, ke, em, o1, o2, o3, sf, se, ()), ()) = some (decide (AvgOk a0 sf se em)) := by
  obtain ⟨b1, n1, _⟩ := em
  unfold plan_averages plan_count plan_within AvgOk
  dsimp only
  simp only [bnd_mk, cnd_if, ite_some]
  congr 1
  rw [Bool.eq_iff_iff]
  generalize eqT _ _ _ = b
  by_cases h1 : se = 0
  · cases b <;> cases b1 <;> simp [h1]
  · cases b <;> cases b1 <;> simp [h1]
    all_goals omega

def HeadOk : Prop := 1 ≤ a0 ∧ a0 ≤ 1000000 ∧ 0 ≤ a1 ∧ a1 ≤ 16 ∧ 0 ≤ a2 ∧ a2 ≤ 4 ∧ 1 ≤ a3 ∧ a3 ≤ 8 ∧ 0 ≤ a4 ∧ a4 ≤ a0
def SpansAll : Prop := (∀ i, i < sp.length → SpanOk sp i) ∧ (if sp.length = 0 then 0 else (nth zSpan sp (sp.length - 1)).2.1) = a0 ∧ sp.length ≤ 16
def FrozenAll : Prop := (∀ i, i < fz.length → ((nth [] fz i).length : Int) = a3) ∧ fz.length = sp.length
def TracksAll : Prop := (∀ i, i < tr.length → TrackOk a0 i (nth zTrack tr i)) ∧ (tr.length : Int) = wr .i64 (a3 * 3)
def PlanOk : Prop := HeadOk a0 a1 a2 a3 a4 ∧ SpansAll a0 sp ∧ FrozenAll a3 sp fz ∧ TracksAll a0 a3 tr ∧ StopOk a2 a4 o1 st ∧ CutOk a2 a4 o2 cu ∧ KeepOk a2 a4 o3 ke ∧ AvgOk a0 sf se em
theorem p_plan (hs : sp.length ≤ 9223372036854775807) (hf : fz.length ≤ 9223372036854775807) (ht : tr.length ≤ 9223372036854775807) (hg : ∀ t ∈ tr, t.2.2.1.length ≤ 9223372036854775807) : plan_Check ((a0, a1, a2, a3, a4, sp, fz, tr, st, cu, ke, em, o1, o2, o3, sf, se, ()), ()) = some (if PlanOk a0 a1 a2 a3 a4 sp fz tr st cu ke em o1 o2 o3 sf se then 0 else 1) := by
  unfold plan_Check
  dsimp only
  rw [show plan_spans ((a0, a1, a2, a3, a4, sp, fz, tr, st, cu, ke, em, o1, o2, o3, sf, se, ()), ()) = some (decide (SpansAll a0 sp)) from (p_spans _ sp rfl hs).trans (congrArg some (decide_eq_decide.2 Iff.rfl)), show plan_frozen ((a0, a1, a2, a3, a4, sp, fz, tr, st, cu, ke, em, o1, o2, o3, sf, se, ()), ()) = some (decide (FrozenAll a3 sp fz)) from (p_frozen _ fz rfl hf).trans (congrArg some (decide_eq_decide.2 Iff.rfl)), show plan_tracks ((a0, a1, a2, a3, a4, sp, fz, tr, st, cu, ke, em, o1, o2, o3, sf, se, ()), ()) = some (decide (TracksAll a0 a3 tr)) from (p_tracks _ tr rfl ht hg).trans (congrArg some (decide_eq_decide.2 Iff.rfl))]
  unfold plan_within
  dsimp only
  by_cases h : HeadOk a0 a1 a2 a3 a4
  · have h' := h
    unfold HeadOk at h'
    rw [p_stop _ _ _ _ _ _ _ _ _ _ _ _ _ _ _ _ _ h'.2.2.2.2.1 h'.2.2.2.2.2.1, p_cut _ _ _ _ _ _ _ _ _ _ _ _ _ _ _ _ _ h'.2.2.2.2.1 h'.2.2.2.2.2.1, p_keep _ _ _ _ _ _ _ _ _ _ _ _ _ _ _ _ _ h'.2.2.2.2.1 h'.2.2.2.2.2.1, p_avg]
    rw [decide_eq_true (by omega : a0 ≥ 1), decide_eq_true (by omega : a0 ≤ 1000000), decide_eq_true (by omega : a1 ≥ 0), decide_eq_true (by omega : a1 ≤ 16), decide_eq_true (by omega : a2 ≥ 0), decide_eq_true (by omega : a2 ≤ 4), decide_eq_true (by omega : a3 ≥ 1), decide_eq_true (by omega : a3 ≤ 8), decide_eq_true (by omega : a4 ≥ 0), decide_eq_true (by omega : a4 ≤ a0)]
    simp only [bnd_mk, cnd_t, cnd_f, cnd_if, ite_some]
    congr 1
    unfold PlanOk
    by_cases b1 : SpansAll a0 sp <;> by_cases b2 : FrozenAll a3 sp fz <;> by_cases b3 : TracksAll a0 a3 tr <;> simp only [h, b1, b2, b3, decide_true, decide_false, Bool.not_true, Bool.not_false, if_true, if_false, true_and, false_and, and_false, Bool.false_eq_true]
    by_cases b4 : StopOk a2 a4 o1 st <;> by_cases b5 : CutOk a2 a4 o2 cu <;> by_cases b6 : KeepOk a2 a4 o3 ke <;> by_cases b7 : AvgOk a0 sf se em <;> simp only [b4, b5, b6, b7, decide_true, decide_false, Bool.not_true, Bool.not_false, if_true, if_false, true_and, false_and, and_false, Bool.false_eq_true]
  · have hn : ¬ PlanOk a0 a1 a2 a3 a4 sp fz tr st cu ke em o1 o2 o3 sf se := fun x => h x.1
    rw [if_neg hn]
    unfold HeadOk at h
    simp only [bnd_mk, cnd_if, ite_some]
    by_cases c1 : 1 ≤ a0 ∧ a0 ≤ 1000000 ∧ 0 ≤ a1 ∧ a1 ≤ 16 ∧ 0 ≤ a2 ∧ a2 ≤ 4
    · rw [decide_eq_true (by omega : a0 ≥ 1), decide_eq_true (by omega : a0 ≤ 1000000), decide_eq_true (by omega : a1 ≥ 0), decide_eq_true (by omega : a1 ≤ 16), decide_eq_true (by omega : a2 ≥ 0), decide_eq_true (by omega : a2 ≤ 4)]
      rw [if_neg (by simp), if_pos]
      by_cases c2 : 1 ≤ a3 ∧ a3 ≤ 8
      · have c3 : ¬ (0 ≤ a4 ∧ a4 ≤ a0) := by omega
        by_cases c4 : 0 ≤ a4
        · simp [c2, c4, show ¬ a4 ≤ a0 by omega]
        · simp [c2, c4]
      · by_cases c4 : 1 ≤ a3
        · simp [c4, show ¬ a3 ≤ 8 by omega]
        · simp [c4]
    · rw [if_pos]
      by_cases d1 : 1 ≤ a0
      · by_cases d2 : a0 ≤ 1000000
        · by_cases d3 : 0 ≤ a1
          · by_cases d4 : a1 ≤ 16
            · by_cases d5 : 0 ≤ a2
              · simp [d1, d2, d3, d4, d5, show ¬ a2 ≤ 4 by omega]
              · simp [d1, d2, d3, d4, d5]
            · simp [d1, d2, d3, d4]
          · simp [d1, d2, d3]
        · simp [d1, d2]
      · simp [d1]

theorem rl_spans (h0 : 1 ≤ a0) : SpansAll a0 sp ↔ 1 ≤ sp.length ∧ sp.length ≤ 16 ∧ (nth zSpan sp 0).1 = 0 ∧ (nth zSpan sp (sp.length - 1)).2.1 = a0 ∧ ∀ i, i < sp.length → (nth zSpan sp i).1 < (nth zSpan sp i).2.1 ∧ (0 < i → (nth zSpan sp i).1 = (nth zSpan sp (i - 1)).2.1) := by
  unfold SpansAll SpanOk
  constructor
  · rintro ⟨h1, h2, h3⟩
    by_cases hz : sp.length = 0
    · rw [if_pos hz] at h2; omega
    rw [if_neg hz] at h2
    refine ⟨by omega, h3, ?_, h2, fun i hi => ⟨(h1 i hi).1, fun hp => ?_⟩⟩
    · have := (h1 0 (by omega)).2
      simpa using this
    · have := (h1 i hi).2
      rw [if_neg (by omega)] at this
      exact this
  · rintro ⟨h1, h2, h3, h4, h5⟩
    refine ⟨fun i hi => ⟨(h5 i hi).1, ?_⟩, ?_, h2⟩
    · by_cases hi0 : i = 0
      · subst hi0; simpa using h3
      · rw [if_neg hi0]; exact (h5 i hi).2 (by omega)
    · rw [if_neg (by omega)]; exact h4

theorem r_lists (hh : HeadOk a0 a1 a2 a3 a4) (hs : sp.length ≤ 9223372036854775807) (hf : fz.length ≤ 9223372036854775807) (ht : tr.length ≤ 9223372036854775807) (hg : ∀ t ∈ tr, t.2.2.1.length ≤ 9223372036854775807) : ∃ q, regimenref28_lists ((a0, a1, a2, a3, a4, sp, fz, tr, st, cu, ke, em, o1, o2, o3, sf, se, ()), ()) = some q ∧ (q = true ↔ SpansAll a0 sp ∧ FrozenAll a3 sp fz ∧ TracksAll a0 a3 tr) := by
  unfold HeadOk at hh
  unfold regimenref28_lists
  dsimp only
  rw [rl_spans a0 sp (by omega)]
  have ew : wr .i64 (3 * a3) = wr .i64 (a3 * 3) := by rw [Int.mul_comm]
  rw [ew]
  by_cases c1 : 1 ≤ sp.length
  · rw [ati_0 zSpan (by omega : 0 < sp.length), ati_last zSpan (by omega : 0 < sp.length) hs]
    by_cases c : sp.length ≤ 16 ∧ (nth zSpan sp 0).1 = 0 ∧ (nth zSpan sp (sp.length - 1)).2.1 = a0 ∧ fz.length = sp.length ∧ (tr.length : Int) = wr .i64 (a3 * 3)
    · obtain ⟨c2, c3, c4, c5, c6⟩ := c
      simp only [bnd_mk, decide_eq_true c3, decide_eq_true c4, decide_eq_true c6, decide_eq_false (by omega : ¬ (sp.length : Int) < 1), decide_eq_false (by omega : ¬ (sp.length : Int) > 16), decide_eq_true (by omega : (fz.length : Int) = (sp.length : Int)), Bool.not_false, Bool.not_true, cnd_t, cnd_f, decide_true]
      rw [all_as (∀ i, i < sp.length → (nth zSpan sp i).1 < (nth zSpan sp i).2.1 ∧ (0 < i → (nth zSpan sp i).1 = (nth zSpan sp (i - 1)).2.1) ∧ ((nth [] fz i).length : Int) = a3) sp.length (fun i => (nth zSpan sp i).1 < (nth zSpan sp i).2.1 ∧ (0 < i → (nth zSpan sp i).1 = (nth zSpan sp (i - 1)).2.1) ∧ ((nth [] fz i).length : Int) = a3) _ (.inr false) (.inl ()) Iff.rfl]
      · rw [bndS_ite, all_as (∀ i, i < tr.length → TrackOk a0 i (nth zTrack tr i)) tr.length (fun i => TrackOk a0 i (nth zTrack tr i)) _ (.inr false) (.inl ()) Iff.rfl]
        · rw [bndS_ite, ite_some, ite_some]
          refine ⟨_, rfl, ?_⟩
          unfold FrozenAll TracksAll
          constructor
          · intro x
            by_cases g1 : ∀ i, i < sp.length → (nth zSpan sp i).1 < (nth zSpan sp i).2.1 ∧ (0 < i → (nth zSpan sp i).1 = (nth zSpan sp (i - 1)).2.1) ∧ ((nth [] fz i).length : Int) = a3
            · rw [if_pos g1] at x
              by_cases g2 : ∀ i, i < tr.length → TrackOk a0 i (nth zTrack tr i)
              · exact ⟨⟨c1, c2, c3, c4, fun i hi => ⟨(g1 i hi).1, (g1 i hi).2.1⟩⟩, ⟨fun i hi => (g1 i (by omega)).2.2, c5⟩, g2, c6⟩
              · rw [if_neg g2] at x; cases x
            · rw [if_neg g1] at x; cases x
          · rintro ⟨⟨_, _, _, _, g1⟩, ⟨g2, _⟩, g3, _⟩
            rw [if_pos, if_pos g3]
            exact fun i hi => ⟨(g1 i hi).1, (g1 i hi).2, g2 i (by omega)⟩
        · intro i hi _
          dsimp only
          rw [lt_true hi, cnd_t, ati_d zTrack hi, bnd_mk, wr_succ hi ht]
          have hm : nth zTrack tr i ∈ tr := nth_mem hi
          rw [r_whole _ _ (hg _ hm)]
          unfold TrackOk
          generalize nth zTrack tr i = t at *
          generalize wr .i64 (Int.tdiv i 3) = u
          generalize Int.tmod (i : Int) 3 = v
          by_cases h1 : t.1 = u
          · by_cases h2 : t.2.1 = v
            · by_cases h3 : SegsOk t.2.2.1 ∧ 0 < t.2.2.1.length ∧ (nth zSeg t.2.2.1 0).1 = 0 ∧ (nth zSeg t.2.2.1 (t.2.2.1.length - 1)).2.1 = a0
              · rw [if_pos ⟨h1, h2, h3⟩, decide_eq_true h3]
                simp [h1, h2, cnd_if, bnd_mk, inlE, inrE_mk]
              · rw [if_neg (fun x => h3 x.2.2), decide_eq_false h3]
                simp [h1, h2, cnd_if, bnd_mk, inlE, inrE_mk]
            · simp [h1, h2, cnd_if, bnd_mk, inlE, inrE_mk]
          · simp [h1, cnd_if, bnd_mk, inlE, inrE_mk]
        · intro _
          dsimp only
          rw [lt_false, cnd_f]
          rfl
      · intro i hi _
        dsimp only
        rw [lt_true hi, cnd_t, ati_d zSpan hi, bnd_mk, bnd_mk, wr_succ hi hs, ati_d [] (by omega : i < fz.length)]
        by_cases h0 : 0 < i
        · rw [ati_pred zSpan h0 hi hs, decide_eq_true (by omega : (i : Int) > 0)]
          by_cases h1 : (nth zSpan sp i).1 < (nth zSpan sp i).2.1
          · by_cases h2 : (nth zSpan sp i).1 = (nth zSpan sp (i - 1)).2.1
            · have h3 : ¬ (nth zSpan sp (i - 1)).2.1 ≥ (nth zSpan sp i).2.1 := by omega
              by_cases h4 : ((nth [] fz i).length : Int) = a3
              · simp [h1, h2, h3, h4, h0, cnd_if, bnd_mk, inlE, inrE_mk]
              · simp [h1, h2, h3, h4, h0, cnd_if, bnd_mk, inlE, inrE_mk]
            · simp [h1, h2, h0, cnd_if, bnd_mk, inlE, inrE_mk]
          · simp [h1, h0, cnd_if, bnd_mk, inlE, inrE_mk]
        · rw [decide_eq_false (by omega : ¬ (i : Int) > 0)]
          by_cases h1 : (nth zSpan sp i).1 < (nth zSpan sp i).2.1
          · by_cases h4 : ((nth [] fz i).length : Int) = a3
            · simp [h1, h4, h0, cnd_if, bnd_mk, inlE, inrE_mk]
            · simp [h1, h4, h0, cnd_if, bnd_mk, inlE, inrE_mk]
          · simp [h1, h0, cnd_if, bnd_mk, inlE, inrE_mk]
      · intro _
        dsimp only
        rw [lt_false, cnd_f]
        rfl
    · refine ⟨false, ?_, ⟨fun x => (Bool.false_ne_true x).elim, fun x => (c ⟨x.1.2.1, x.1.2.2.1, x.1.2.2.2.1, x.2.1.2, x.2.2.2⟩).elim⟩⟩
      simp only [bnd_mk, cnd_if, ite_some]
      rw [if_pos]
      by_cases k1 : sp.length ≤ 16
      · have k1' : ¬ (sp.length : Int) > 16 := by omega
        by_cases k2 : (nth zSpan sp 0).1 = 0
        · by_cases k3 : (nth zSpan sp (sp.length - 1)).2.1 = a0
          · by_cases k4 : fz.length = sp.length
            · have k5 : ¬ (tr.length : Int) = wr .i64 (a3 * 3) := fun x => c ⟨k1, k2, k3, k4, x⟩
              simp [k1', k2, k3, k4, k5]
            · have k4' : ¬ (fz.length : Int) = (sp.length : Int) := by omega
              simp [k1', k2, k3, k4']
          · simp [k1', k2, k3]
        · simp [k1', k2]
      · have k1' : (sp.length : Int) > 16 := by omega
        simp [k1']
  · refine ⟨false, ?_, ⟨fun x => (Bool.false_ne_true x).elim, fun x => (c1 x.1.1).elim⟩⟩
    rw [decide_eq_true (by omega : (sp.length : Int) < 1)]
    rfl
theorem r_stop : ∃ q : Bool, (q = true ↔ StopOk a2 a4 o1 st) ∧ ∀ {β : Type} (K : Bool → Option β), (bnd (cnd (!decide (o1 = (-1))) (bnd (regimenref28_watched ((a0, a1, a2, a3, a4, sp, fz, tr, st, cu, ke, em, o1, o2, o3, sf, se, ()), o1, st.2.1, st.1, ())) fun r12 => bnd (cnd r12 (bnd (regimenref28_count (st.2.2.2.1, ())) fun r13 => some r13) (some false)) fun j14 => bnd (cnd j14 (bnd (regimenref28_value (st.2.2.2.2.1, ())) fun r15 => some r15) (some false)) fun j16 => some (!j16)) (some false)) fun j17 => bnd (cnd (!j17) (bnd (cnd (decide (o1 = (-1))) (some (!eqT (.pr .bool (.pr .str (.pr .bool (.pr (.int .i64) (.pr (.int .i64) (.pr .bool .unit)))))) st (false, [], false, 0, 0, false, ()))) (some false)) fun j18 => some j18) (some true)) K) = K (!q) := by
  obtain ⟨b1, m1, c1, n1, n2, c2, _⟩ := st
  unfold regimenref28_watched regimenref28_count regimenref28_value StopOk SeenOk
  dsimp only
  simp only [bnd_mk, cnd_if, ite_some]
  generalize eqT _ _ _ = b
  refine ⟨!_, ?_, fun K => congrArg K (Bool.not_not _).symm⟩
  by_cases h1 : o1 = -1
  · simp [h1]
  · by_cases h2 : m1 = []
    · cases b1 <;> simp [h1, h2]
      omega
    · simp [h1, h2]

theorem r_cut : ∃ q : Bool, (q = true ↔ CutOk a2 a4 o2 cu) ∧ ∀ {β : Type} (K : Bool → Option β), (bnd (cnd (!decide (o2 = (-1))) (bnd (regimenref28_watched ((a0, a1, a2, a3, a4, sp, fz, tr, st, cu, ke, em, o1, o2, o3, sf, se, ()), o2, cu.2.1, cu.1, ())) fun r20 => bnd (cnd r20 (bnd (regimenref28_count (cu.2.2.2.2.1, ())) fun r21 => some r21) (some false)) fun j22 => bnd (cnd j22 (bnd (regimenref28_value (cu.2.2.2.2.2.2.2.1, ())) fun r23 => some r23) (some false)) fun j24 => bnd (cnd j24 (bnd (regimenref28_value (cu.2.2.2.2.2.2.1, ())) fun r25 => some r25) (some false)) fun j26 => bnd (cnd j26 (some (decide (cu.2.2.2.1 ≥ 0))) (some false)) fun j27 => bnd (cnd j27 (some (decide (cu.2.2.2.1 < 4294967296))) (some false)) fun j28 => bnd (cnd j28 (some (decide (cu.2.2.2.2.2.1 ≥ 0))) (some false)) fun j29 => bnd (cnd j29 (some (decide (cu.2.2.2.2.2.1 ≤ 1099511627776))) (some false)) fun j30 => some (!j30)) (some false)) fun j31 => bnd (cnd (!j31) (bnd (cnd (decide (o2 = (-1))) (some (!eqT (.pr .bool (.pr .str (.pr .bool (.pr (.int .i64) (.pr (.int .i64) (.pr (.int .i64) (.pr (.int .i64) (.pr (.int .i64) .unit)))))))) cu (false, [], false, 0, 0, 0, 0, 0, ()))) (some false)) fun j32 => some j32) (some true)) K) = K (!q) := by
  obtain ⟨b1, m1, c1, n1, n2, n3, n4, n5, _⟩ := cu
  unfold regimenref28_watched regimenref28_count regimenref28_value CutOk SeenOk
  dsimp only
  simp only [bnd_mk, cnd_if, ite_some]
  generalize eqT _ _ _ = b
  refine ⟨!_, ?_, fun K => congrArg K (Bool.not_not _).symm⟩
  by_cases h1 : o2 = -1
  · simp [h1]
  · by_cases h2 : m1 = []
    · cases b1 <;> simp [h1, h2]
      omega
    · simp [h1, h2]

theorem r_keep : ∃ q : Bool, (q = true ↔ KeepOk a2 a4 o3 ke) ∧ ∀ {β : Type} (K : Bool → Option β), (bnd (cnd (!decide (o3 = (-1))) (bnd (regimenref28_watched ((a0, a1, a2, a3, a4, sp, fz, tr, st, cu, ke, em, o1, o2, o3, sf, se, ()), o3, ke.2.1, ke.1, ())) fun r34 => bnd (cnd r34 (some (decide (ke.2.2.2.1 ≥ 1))) (some false)) fun j35 => bnd (cnd j35 (some (decide (ke.2.2.2.1 ≤ 16))) (some false)) fun j36 => some (!j36)) (some false)) fun j37 => bnd (cnd (!j37) (bnd (cnd (decide (o3 = (-1))) (some (!eqT (.pr .bool (.pr .str (.pr .bool (.pr (.int .i64) .unit)))) ke (false, [], false, 0, ()))) (some false)) fun j38 => some j38) (some true)) K) = K (!q) := by
  obtain ⟨b1, m1, c1, n1, _⟩ := ke
  unfold regimenref28_watched KeepOk SeenOk
  dsimp only
  simp only [bnd_mk, cnd_if, ite_some]
  generalize eqT _ _ _ = b
  refine ⟨!_, ?_, fun K => congrArg K (Bool.not_not _).symm⟩
  by_cases h1 : o3 = -1
  · simp [h1]
  · by_cases h2 : m1 = []
    · cases b1 <;> simp [h1, h2]
      omega
    · simp [h1, h2]
theorem r_may (hs : sp.length ≤ 9223372036854775807) (hf : fz.length ≤ 9223372036854775807) (ht : tr.length ≤ 9223372036854775807) (hg : ∀ t ∈ tr, t.2.2.1.length ≤ 9223372036854775807) : ∃ q, regimenref28_May ((a0, a1, a2, a3, a4, sp, fz, tr, st, cu, ke, em, o1, o2, o3, sf, se, ()), ()) = some q ∧ (q = true ↔ PlanOk a0 a1 a2 a3 a4 sp fz tr st cu ke em o1 o2 o3 sf se) := by
  unfold regimenref28_May
  dsimp only
  by_cases h : HeadOk a0 a1 a2 a3 a4
  · obtain ⟨q, e, hq⟩ := r_lists a0 a1 a2 a3 a4 sp fz tr st cu ke em o1 o2 o3 sf se h hs hf ht hg
    rw [e]
    have hP : PlanOk a0 a1 a2 a3 a4 sp fz tr st cu ke em o1 o2 o3 sf se ↔ q = true ∧ StopOk a2 a4 o1 st ∧ CutOk a2 a4 o2 cu ∧ KeepOk a2 a4 o3 ke ∧ AvgOk a0 sf se em := by
      rw [hq]; unfold PlanOk
      exact ⟨fun x => ⟨⟨x.2.1, x.2.2.1, x.2.2.2.1⟩, x.2.2.2.2⟩, fun x => ⟨h, x.1.1, x.1.2.1, x.1.2.2, x.2⟩⟩
    rw [hP]
    unfold HeadOk at h
    rw [decide_eq_false (by omega : ¬ a0 < 1), decide_eq_false (by omega : ¬ a0 > 1000000), decide_eq_false (by omega : ¬ a1 < 0), decide_eq_false (by omega : ¬ a1 > 16), decide_eq_false (by omega : ¬ a2 < 0), decide_eq_false (by omega : ¬ a2 > 4), decide_eq_false (by omega : ¬ a3 < 1), decide_eq_false (by omega : ¬ a3 > 8), decide_eq_false (by omega : ¬ a4 < 0), decide_eq_false (by omega : ¬ a4 > a0)]
    obtain ⟨q1, f1, g1⟩ := r_stop a0 a1 a2 a3 a4 sp fz tr st cu ke em o1 o2 o3 sf se
    obtain ⟨q2, f2, g2⟩ := r_cut a0 a1 a2 a3 a4 sp fz tr st cu ke em o1 o2 o3 sf se
    obtain ⟨q3, f3, g3⟩ := r_keep a0 a1 a2 a3 a4 sp fz tr st cu ke em o1 o2 o3 sf se
    rw [g1, g2, g3, ← f1, ← f2, ← f3]
    simp only [bnd_mk, cnd_t, cnd_f, Bool.not_false, Bool.not_true]
    cases q
    · exact ⟨false, rfl, by simp⟩
    cases q1
    · exact ⟨false, rfl, by simp⟩
    cases q2
    · exact ⟨false, rfl, by simp⟩
    cases q3
    · exact ⟨false, rfl, by simp⟩
    obtain ⟨b1, n1, _⟩ := em
    unfold regimenref28_count AvgOk
    simp only [bnd_mk, cnd_if, ite_some]
    generalize eqT _ _ _ = b
    refine ⟨_, rfl, ?_⟩
    by_cases h1 : se = 0
    · cases b <;> cases b1 <;> simp [h1]
      all_goals omega
    · cases b <;> cases b1 <;> simp [h1]
      all_goals omega
  · refine ⟨false, ?_, ⟨fun x => (Bool.false_ne_true x).elim, fun x => (h x.1).elim⟩⟩
    unfold HeadOk at h
    by_cases d1 : a0 < 1
    · rw [decide_eq_true d1]; rfl
    rw [decide_eq_false d1]
    by_cases d2 : a0 > 1000000
    · rw [decide_eq_true d2]; rfl
    rw [decide_eq_false d2]
    by_cases d3 : a1 < 0
    · rw [decide_eq_true d3]; rfl
    rw [decide_eq_false d3]
    by_cases d4 : a1 > 16
    · rw [decide_eq_true d4]; rfl
    rw [decide_eq_false d4]
    by_cases d5 : a2 < 0
    · rw [decide_eq_true d5]; rfl
    rw [decide_eq_false d5]
    by_cases d6 : a2 > 4
    · rw [decide_eq_true d6]; rfl
    rw [decide_eq_false d6]
    by_cases d7 : a3 < 1
    · rw [decide_eq_true d7]; rfl
    rw [decide_eq_false d7]
    by_cases d8 : a3 > 8
    · rw [decide_eq_true d8]; rfl
    rw [decide_eq_false d8]
    by_cases d9 : a4 < 0
    · rw [decide_eq_true d9]; rfl
    rw [decide_eq_false d9]
    by_cases d10 : a4 > a0
    · rw [decide_eq_true d10]; rfl
    omega
end

theorem len_int {α : Type} (a b : List α) : decide ((a.length : Int) = (b.length : Int)) = decide (a.length = b.length) := by
  rw [decide_eq_decide]; omega

theorem equal_R (a b : List (Bool × Int × Unit)) (hl : a.length ≤ 9223372036854775807) : ∃ q, slices_Equal_regimen_api_Reading_regimen_api_Reading (a, b, ()) = some q ∧ (q = true ↔ a = b) := by
  unfold slices_Equal_regimen_api_Reading_regimen_api_Reading
  by_cases h : a.length = b.length
  · rcases eq_loop (eqT (.pr .bool (.pr (.int .i64) .unit))) (eqT_iff _ rfl) a b h hl false (fun _ => some true) with ⟨h1, h2⟩ | ⟨h1, h2⟩
    · refine ⟨true, ?_, by simp [h1]⟩
      dsimp only
      rw [len_int, decide_eq_true h]
      exact h2
    · refine ⟨false, ?_, by simp [h1]⟩
      dsimp only
      rw [len_int, decide_eq_true h]
      exact h2
  · refine ⟨false, ?_, by simp; intro e; exact h (by rw [e])⟩
    dsimp only
    rw [len_int, decide_eq_false h]
    rfl
theorem equal_I (a b : List Int) (hl : a.length ≤ 9223372036854775807) : ∃ q, slices_Equal_int_int (a, b, ()) = some q ∧ (q = true ↔ a = b) := by
  unfold slices_Equal_int_int
  by_cases h : a.length = b.length
  · rcases eq_loop (fun x y : Int => decide (x = y)) (fun x y => by simp) a b h hl false (fun _ => some true) with ⟨h1, h2⟩ | ⟨h1, h2⟩
    · refine ⟨true, ?_, by simp [h1]⟩
      dsimp only
      rw [len_int, decide_eq_true h]
      exact h2
    · refine ⟨false, ?_, by simp [h1]⟩
      dsimp only
      rw [len_int, decide_eq_true h]
      exact h2
  · refine ⟨false, ?_, by simp; intro e; exact h (by rw [e])⟩
    dsimp only
    rw [len_int, decide_eq_false h]
    rfl

abbrev InD := List (Bool × Int × Unit) × List Int × Unit
theorem same_p (X Y : InD) (h1 : X.1.length ≤ 60) (h2 : X.2.1.length ≤ 60) : ∃ q, reading_Same (X, Y, ()) = some q ∧ (q = true ↔ X.1 = Y.1 ∧ X.2.1 = Y.2.1) := by
  obtain ⟨q1, e1, f1⟩ := equal_R X.1 Y.1 (by omega)
  obtain ⟨q2, e2, f2⟩ := equal_I X.2.1 Y.2.1 (by omega)
  unfold reading_Same
  dsimp only
  rw [e1, bnd_mk]
  cases q1 with
  | true => exact ⟨q2, by rw [cnd_t, e2]; rfl, by rw [f2]; simp at f1; simp [f1]⟩
  | false => exact ⟨false, rfl, by simp at f1; simp [f1]⟩
/-- The places that have no reading. -/
def miss : List (Bool × Int × Unit) → Int → List Int
  | [], _ => []
  | r :: l, i => if r.1 then miss l (i + 1) else i :: miss l (i + 1)
theorem drop_at {α : Type} {l : List α} {i : Nat} (h : i < l.length) : l.drop i = l[i] :: l.drop (i + 1) := List.drop_eq_getElem_cons h

theorem missing (X : InD) (h : X.1.length ≤ 60) : reading_Missing (X, ()) = some (miss X.1 0) := by
  unfold reading_Missing
  dsimp only
  obtain ⟨r, h1, h2⟩ := loop_rule (f := fun (s2 : List (Int) × Int × Unit) => cnd (decide (s2.2.1 < (X.1.length : Int))) (bnd (ati X.1 s2.2.1) fun v3 => bnd (cnd (!v3.1) (bnd (app 17592186044416 s2.1 [s2.2.1]) fun v5 => some (v5, ())) (some (s2.1, ()))) fun j4 => inlE (j4.1, wr .i64 (s2.2.1 + 1), ())) (inrE (some (s2.1, ()))))
    (fun s => 0 ≤ s.2.1 ∧ s.2.1 ≤ X.1.length ∧ s.1.length ≤ s.2.1.toNat ∧ s.1 ++ miss (X.1.drop s.2.1.toNat) s.2.1 = miss X.1 0) (fun s => X.1.length - s.2.1.toNat) (fun r => r.1 = miss X.1 0) (fun s ⟨i0, i1, i2, i3⟩ => by
      obtain ⟨acc, i, _⟩ := s
      dsimp only at *
      by_cases hlt : i < X.1.length
      · obtain ⟨ha, e1⟩ := ati_at i0 hlt
        have hw : wr .i64 (i + 1) = i + 1 := wr_id (by omega) (by omega)
        have hn : (i + 1).toNat = i.toNat + 1 := by omega
        rw [decide_eq_true hlt, cnd_t, e1, bnd_mk, hw]
        rw [drop_at ha, miss] at i3
        left
        cases hq : (X.1[i.toNat]).1 with
        | true =>
          rw [hq, if_pos rfl] at i3
          refine ⟨(acc, i + 1, ()), rfl, ⟨by dsimp only; omega, by dsimp only; omega, by dsimp only; omega, ?_⟩, by dsimp only; omega⟩
          dsimp only; rw [hn]; exact i3
        | false =>
          rw [hq, if_neg (by simp)] at i3
          refine ⟨(acc ++ [i], i + 1, ()), ?_, ⟨by dsimp only; omega, by dsimp only; omega, by dsimp only; simp; omega, ?_⟩, by dsimp only; omega⟩
          · rw [Bool.not_false, cnd_t, app_ok (by simp; omega)]; rfl
          · dsimp only; rw [hn, List.append_assoc]; exact i3
      · right
        rw [decide_eq_false hlt, cnd_f]
        refine ⟨(acc, ()), rfl, ?_⟩
        have : X.1.drop i.toNat = [] := List.drop_of_length_le (by omega)
        rw [this, miss, List.append_nil] at i3
        exact i3) ([], 0, ()) ⟨Int.le_refl _, by simp, by simp, by simp⟩
  rw [h1, bnd_mk, h2]

theorem awake : regimenlaw35_awake () = some true := by
  unfold regimenlaw35_awake
  have e1 : reading_Of (([(false, 0, ()), (true, 7, ())], [], ()), 1, ()) = some (7, true, ()) := rfl
  rw [e1, bnd_mk, missing _ (by simp), bnd_mk]
  obtain ⟨q, e2, f2⟩ := same_p ([(false, 0, ()), (true, 7, ())], [], ()) ([(false, 0, ()), (true, 7, ())], [], ()) (by simp) (by simp)
  have hq : q = true := f2.2 ⟨rfl, rfl⟩
  subst hq
  have e3 : reading_Check ((0, 0, 0, 0, 0, [], [], [], (false, [], false, 0, 0, false, ()), (false, [], false, 0, 0, 0, 0, 0, ()), (false, [], false, 0, ()), (false, 0, ()), 0, 0, 0, 0, 0, ()), ([(false, 0, ()), (true, 7, ())], [], ()), ()) = some 1 := rfl
  have e4 : miss [(false, 0, ()), (true, 7, ())] 0 = [0] := rfl
  rw [e4]
  have e5 : ati [(0 : Int)] 0 = some 0 := rfl
  rw [e2, e3, e5]
  rfl
theorem index_R (l : List (Bool × Int × Unit)) (hl : l.length ≤ 9223372036854775807) (g : Bool × Int × Unit → Bool) (G : (Bool × Int × Unit) × Unit → Option Bool) (hG : ∀ v, G (v, ()) = some (g v)) :
    ∃ r, slices_IndexFunc_regimen_api_Reading_regimen_api_Reading (l, G, ()) = some r ∧ (0 ≤ r ↔ ∃ i, i < l.length ∧ g (nth (false, 0, ()) l i) = true) := by
  unfold slices_IndexFunc_regimen_api_Reading_regimen_api_Reading
  dsimp only
  obtain ⟨r, e, h⟩ := loop_rule (ρ := Unit ⊕ Int) (f := (fun (s2 : Int × Unit) => cnd (decide (s2.1 < (l.length : Int))) (bnd (ati l s2.1) fun v3 => bnd (G (v3, ())) fun r4 => cnd r4 (inrE (inrE (some s2.1))) (inlE (wr .i64 (s2.1 + 1), ()))) (inrE (inlE (())))))
    (fun s => 0 ≤ s.1 ∧ s.1 ≤ l.length ∧ ∀ j : Nat, j < s.1.toNat → g (nth (false, 0, ()) l j) = false) (fun s => l.length - s.1.toNat) (fun r => (r = .inl () ∧ ∀ j, j < l.length → g (nth (false, 0, ()) l j) = false) ∨ ∃ i : Nat, r = .inr (i : Int) ∧ i < l.length ∧ g (nth (false, 0, ()) l i) = true) (fun s ⟨i0, i1, i2⟩ => by
      obtain ⟨i, _⟩ := s
      dsimp only at *
      obtain ⟨k, rfl⟩ : ∃ k : Nat, i = k := ⟨i.toNat, by omega⟩
      by_cases hk : k < l.length
      · rw [lt_true hk, cnd_t, ati_d (false, 0, ()) hk, bnd_mk, hG, bnd_mk, wr_succ hk hl]
        cases hq : g (nth (false, 0, ()) l k) with
        | true => exact .inr ⟨_, rfl, .inr ⟨k, rfl, hk, hq⟩⟩
        | false =>
          refine .inl ⟨_, rfl, ⟨by dsimp only; omega, by dsimp only; omega, fun j hj => ?_⟩, by dsimp only; omega⟩
          dsimp only at hj
          by_cases hjk : j = k
          · exact hjk ▸ hq
          · exact i2 j (by omega)
      · right
        have hkn : k = l.length := by omega
        subst hkn
        rw [lt_false, cnd_f]
        exact ⟨_, rfl, .inl ⟨rfl, fun j hj => i2 j (by omega)⟩⟩) (0, ()) ⟨Int.le_refl _, by dsimp only; omega, fun j hj => by simp at hj⟩
  rw [e]
  rcases h with ⟨rfl, h⟩ | ⟨i, rfl, hi, h⟩
  · refine ⟨-1, rfl, fun x => by omega, fun ⟨i, hi, hg⟩ => ?_⟩
    rw [h i hi] at hg; cases hg
  · exact ⟨i, rfl, fun _ => ⟨i, hi, h⟩, fun _ => by omega⟩
def NoneBad (l : List (Bool × Int × Unit)) : Prop := ∀ i, i < l.length → ¬ ((nth (false, 0, ()) l i).1 = false ∧ (nth (false, 0, ()) l i).2.1 ≠ 0)
theorem r_35 (a2 a1 : Int) (p) (x : InD) (e1 : p.2.2.1 = a2) (e2 : p.2.1 = a1) (hx : x.1.length ≤ 9223372036854775807) : ∃ q, regimenref35_May (p, x, ()) = some q ∧ (q = true ↔ NoneBad x.1 ∧ (x.1.length : Int) = a2 ∧ (x.2.1.length : Int) = a1) := by
  subst e1 e2
  unfold regimenref35_May
  dsimp only
  rw [all_as (NoneBad x.1) x.1.length (fun i => ¬ ((nth (false, 0, ()) x.1 i).1 = false ∧ (nth (false, 0, ()) x.1 i).2.1 ≠ 0)) _ (.inr false) (.inl ()) Iff.rfl]
  · rw [bndS_ite]
    simp only [bnd_mk, cnd_if, ite_some]
    refine ⟨_, rfl, ?_⟩
    by_cases h : NoneBad x.1
    · simp [h]
    · simp [h]
  · intro i hi _
    dsimp only
    rw [lt_true hi, cnd_t, ati_d (false, 0, ()) hi, wr_succ hi hx]
    simp only [bnd_mk]
    cases h1 : (nth (false, 0, ()) x.1 i).1 <;> by_cases h2 : (nth (false, 0, ()) x.1 i).2.1 = 0 <;> simp [h2, cnd_if, bnd_mk, inlE, inrE_mk]
  · intro _
    dsimp only
    rw [lt_false, cnd_f]
    rfl

section
variable (a0 a1 a2 a3 a4 : Int) (sp : List SpanD) (fz : List (List Bool)) (tr : List TrackD) (st : StopD) (cu : CutD) (ke : KeepD) (em : Bool × Int × Unit) (o1 o2 o3 sf se : Int)
theorem p_check (X : InD) (hx : X.1.length ≤ 9223372036854775807) (hs : sp.length ≤ 9223372036854775807) (hf : fz.length ≤ 9223372036854775807) (ht : tr.length ≤ 9223372036854775807) (hg : ∀ t ∈ tr, t.2.2.1.length ≤ 9223372036854775807) :
    ∃ q, reading_Check ((a0, a1, a2, a3, a4, sp, fz, tr, st, cu, ke, em, o1, o2, o3, sf, se, ()), X, ()) = some (cnd q 0 1) ∧ (q = true ↔ PlanOk a0 a1 a2 a3 a4 sp fz tr st cu ke em o1 o2 o3 sf se ∧ NoneBad X.1 ∧ (X.1.length : Int) = a2 ∧ (X.2.1.length : Int) = a1) := by
  unfold reading_Check
  dsimp only
  rw [p_plan a0 a1 a2 a3 a4 sp fz tr st cu ke em o1 o2 o3 sf se hs hf ht hg, bnd_mk]
  by_cases h : PlanOk a0 a1 a2 a3 a4 sp fz tr st cu ke em o1 o2 o3 sf se
  · rw [if_pos h]
    by_cases h1 : (X.1.length : Int) = a2
    · by_cases h2 : (X.2.1.length : Int) = a1
      · unfold slices_ContainsFunc_regimen_api_Reading_regimen_api_Reading
        obtain ⟨r, e, hr⟩ := index_R X.1 hx (fun v => !v.1 && !decide (v.2.1 = 0)) (fun a4 => bnd (reading_Check_1 a4) some) (fun v => by
          unfold reading_Check_1
          dsimp only
          cases v.1 <;> rfl)
        dsimp only
        rw [e, bnd_mk, bnd_mk, decide_eq_true h1, decide_eq_true h2]
        by_cases h0 : 0 ≤ r
        · refine ⟨false, by rw [decide_eq_true (show r ≥ 0 from h0)]; rfl, ⟨fun x => (Bool.false_ne_true x).elim, fun x => ?_⟩⟩
          obtain ⟨i, hi, hb⟩ := hr.1 h0
          simp at hb
          exact (x.2.1 i hi ⟨hb.1, hb.2⟩).elim
        · refine ⟨true, by rw [decide_eq_false (show ¬ r ≥ 0 from h0)]; rfl, ⟨fun _ => ⟨h, fun i hi hb => h0 (hr.2 ⟨i, hi, ?_⟩), h1, h2⟩, fun _ => rfl⟩⟩
          simp
          exact hb
      · refine ⟨false, by rw [decide_eq_true h1, decide_eq_false h2]; rfl, ⟨fun x => (Bool.false_ne_true x).elim, fun x => (h2 x.2.2.2).elim⟩⟩
    · refine ⟨false, by rw [decide_eq_false h1]; rfl, ⟨fun x => (Bool.false_ne_true x).elim, fun x => (h1 x.2.2.1).elim⟩⟩
  · rw [if_neg h]
    exact ⟨false, rfl, ⟨fun x => (Bool.false_ne_true x).elim, fun x => (h x.1).elim⟩⟩

theorem light : ∃ q, regimenlaw28_Light ((a0, a1, a2, a3, a4, sp, fz, tr, st, cu, ke, em, o1, o2, o3, sf, se, ()), ()) = some q := by
  unfold regimenlaw28_Light
  dsimp only
  rw [all_as (∀ i, i < min tr.length 31 → (nth zTrack tr i).2.2.1.length ≤ 60) (min tr.length 31) (fun i => (nth zTrack tr i).2.2.1.length ≤ 60) _ (.inr false) (.inl ()) Iff.rfl]
  · rw [bndS_ite, all_as (∀ i, i < min fz.length 21 → (nth [] fz i).length ≤ 60) (min fz.length 21) (fun i => (nth [] fz i).length ≤ 60) _ (.inr false) (.inl ()) Iff.rfl]
    · rw [bndS_ite]
      simp only [bnd_mk, cnd_if, ite_some]
      exact ⟨_, rfl⟩
    · intro i hi _
      dsimp only
      have h1 : i < fz.length := by omega
      rw [decide_eq_true (by omega : (i : Int) < (fz.length : Int)), decide_eq_true (by omega : (i : Int) ≤ 20), ati_d [] h1, wr_succ hi (by omega)]
      by_cases h : (nth [] fz i).length ≤ 60
      · have h' : ¬ ((nth [] fz i).length : Int) > 60 := by omega
        rw [if_pos h]
        simp only [bnd_mk, cnd_t]
        rw [decide_eq_false h']
        rfl
      · have h' : ((nth [] fz i).length : Int) > 60 := by omega
        rw [if_neg h]
        simp only [bnd_mk, cnd_t]
        rw [decide_eq_true h']
        rfl
    · intro _
      dsimp only
      by_cases h : fz.length < 21
      · rw [decide_eq_false (by omega : ¬ ((min fz.length 21 : Nat) : Int) < (fz.length : Int))]; rfl
      · rw [decide_eq_false (by omega : ¬ ((min fz.length 21 : Nat) : Int) ≤ 20)]
        cases decide (((min fz.length 21 : Nat) : Int) < (fz.length : Int)) <;> rfl
  · intro i hi _
    dsimp only
    have h1 : i < tr.length := by omega
    rw [decide_eq_true (by omega : (i : Int) < (tr.length : Int)), decide_eq_true (by omega : (i : Int) ≤ 30), ati_d zTrack h1, wr_succ hi (by omega)]
    by_cases h : (nth zTrack tr i).2.2.1.length ≤ 60
    · have h' : ¬ ((nth zTrack tr i).2.2.1.length : Int) > 60 := by omega
      rw [if_pos h]
      simp only [bnd_mk, cnd_t]
      rw [decide_eq_false h']
      rfl
    · have h' : ((nth zTrack tr i).2.2.1.length : Int) > 60 := by omega
      rw [if_neg h]
      simp only [bnd_mk, cnd_t]
      rw [decide_eq_true h']
      rfl
  · intro _
    dsimp only
    by_cases h : tr.length < 31
    · rw [decide_eq_false (by omega : ¬ ((min tr.length 31 : Nat) : Int) < (tr.length : Int))]; rfl
    · rw [decide_eq_false (by omega : ¬ ((min tr.length 31 : Nat) : Int) ≤ 30)]
      cases decide (((min tr.length 31 : Nat) : Int) < (tr.length : Int)) <;> rfl
end

theorem pure_ReadingChecks (x : Ty.D (.tu T51 (.tu T55 .unit))) (h : Ty.wf (.tu T51 (.tu T55 .unit)) x) : regimenlaw35_ReadingChecks x = some true := by
  obtain ⟨⟨a0, a1, a2, a3, a4, sp, fz, tr, st, cu, ke, em, o1, o2, o3, sf, se, _⟩, X, _⟩ := x
  obtain ⟨⟨_, _, _, _, _, hsp, hfz, htr, _⟩, hX, _⟩ := h
  have ea : bnd (regimenlaw35_awake ()) (fun r4 => some r4) = some true := by rw [awake]; rfl
  unfold regimenlaw35_ReadingChecks
  dsimp only
  rw [ea]
  obtain ⟨q1, e1⟩ := light a0 a1 a2 a3 a4 sp fz tr st cu ke em o1 o2 o3 sf se
  rw [e1, bnd_mk]
  cases q1 with
  | false => rfl
  | true =>
    by_cases k1 : (X.1.length : Int) > 60
    · rw [decide_eq_true k1]; rfl
    rw [decide_eq_false k1]
    by_cases k2 : (X.2.1.length : Int) > 60
    · rw [decide_eq_true k2]; rfl
    rw [decide_eq_false k2]
    have hg : ∀ t ∈ tr, t.2.2.1.length ≤ 9223372036854775807 := fun t ht => (htr.2 t ht).2.2.1.1
    obtain ⟨q2, e2, f2⟩ := r_may a0 a1 a2 a3 a4 sp fz tr st cu ke em o1 o2 o3 sf se hsp.1 hfz.1 htr.1 hg
    obtain ⟨q3, e3, f3⟩ := r_35 a2 a1 (a0, a1, a2, a3, a4, sp, fz, tr, st, cu, ke, em, o1, o2, o3, sf, se, ()) X rfl rfl hX.1.1
    obtain ⟨q4, e4, f4⟩ := p_check a0 a1 a2 a3 a4 sp fz tr st cu ke em o1 o2 o3 sf se X hX.1.1 hsp.1 hfz.1 htr.1 hg
    rw [e2, e3, e4]
    have hq : q4 = (q2 && q3) := by
      rw [Bool.eq_iff_iff, f4, Bool.and_eq_true, f2, f3]
    rw [hq]
    cases q2 <;> cases q3 <;> rfl
end Go.Proofs.Ytldfbdifpmgegaa.F
