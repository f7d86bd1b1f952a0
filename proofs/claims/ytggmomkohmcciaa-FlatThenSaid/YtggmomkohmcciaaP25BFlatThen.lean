/- Schedules made flat: a tree's pieces. -/
import Derived.Test.YtggmomkohmcciaaP25AFlatThen
import Derived.Test.YtggmomkohmcciaaPM0FlatThen
set_option linter.unusedVariables false
set_option linter.unusedSectionVars false
set_option linter.unusedSimpArgs false
namespace Go.Proofs.Ytggmomkohmcciaa.F
open Go.VX
open Classical

theorem drop_nod (l : List NodD) {i : Nat} (h : i < l.length) : l.drop i = nth zNod l i :: l.drop (i + 1) := by
  rw [List.drop_eq_getElem_cons h]
  congr 1
  simp [nth, List.getD, h]
theorem ops_dropL (l : List NodD) (i : Nat) : opsN (l.drop i) = (opsN l).drop i := by
  unfold opsN
  rw [List.map_drop]
def FlatAll (l : List NodD) : Prop := ∀ d ∈ l, FlatNode d
theorem chain_end (P : List SegD) (f m t : Int) (g : Int → Int) (h : m = t) (c : Chain P f m g) : Chain P f t g := by subst h; exact c
theorem flat_nth {l : List NodD} (h : FlatAll l) {i : Nat} (hi : i < l.length) : FlatNode (nth zNod l i) := h _ (nth_mem hi)
theorem inl_at (l : List NodD) {j k1 : Nat} (h : walk ((opsN l).drop j) 1 = some k1) : j < l.length := by
  by_cases hj : j < l.length
  · exact hj
  · rw [ops_end l (by omega)] at h; cases h
theorem arN_8 {o : Int} (h : o = 8) : arN o = some 1 := by subst h; rfl
theorem arN_9 {o : Int} (h : o = 9) : arN o = some 2 := by subst h; rfl
theorem G_up (q q' : Tg_flat_maker_warm) (h1 : ∀ x, Le (q.1 x) (q'.1 x)) (h2 : ∀ x, Le (q.2.1 x) (q'.2.1 x)) (h3 : ∀ x, Le (q.2.2 x) (q'.2.2 x)) :
    (∀ x, Le ((G_flat_maker_warm q).1 x) ((G_flat_maker_warm q').1 x)) ∧ (∀ x, Le ((G_flat_maker_warm q).2.1 x) ((G_flat_maker_warm q').2.1 x)) ∧ ∀ x, Le ((G_flat_maker_warm q).2.2 x) ((G_flat_maker_warm q').2.2 x) := by
  unfold G_flat_maker_warm
  refine ⟨fun x => ?_, fun x => ?_, fun x => ?_⟩
  all_goals dsimp only
  all_goals repeat' (first | exact h1 _ | exact h2 _ | exact h3 _ | exact le_same _ | apply cnd_le | refine bnd_le ?_ (fun _ => ?_))
theorem group_up : ∀ n, (∀ x, Le ((g_flat_maker_warm n).1 x) ((g_flat_maker_warm (n + 1)).1 x)) ∧ (∀ x, Le ((g_flat_maker_warm n).2.1 x) ((g_flat_maker_warm (n + 1)).2.1 x)) ∧ ∀ x, Le ((g_flat_maker_warm n).2.2 x) ((g_flat_maker_warm (n + 1)).2.2 x)
  | 0 => ⟨fun _ => le_none _, fun _ => le_none _, fun _ => le_none _⟩
  | n + 1 => G_up (g_flat_maker_warm n) (g_flat_maker_warm (n + 1)) (group_up n).1 (group_up n).2.1 (group_up n).2.2
section
variable (l : List NodD) (ep : Int) (hl : l.length ≤ 64) (hn : FlatAll l) (e0 : 0 ≤ ep) (e1 : ep ≤ 1000000)
def GoodM (at' : Nat) (f t : Int) (P : List SegD) : Prop := Chain P f t (fun step => AtS ep (l.drop at') (step - f) (t - f)) ∧ P.length = PcS ep (l.drop at') (t - f)
include hl hn e0 e1
theorem make_r : ∀ (n at' : Nat) (f t : Int), at' < l.length → WholeAt (opsN l) at' → 0 ≤ f → f < t → t + dep ((opsN l).drop at') ≤ 1000100 →
    (∃ P, (g_flat_maker_warm n).2.1 (((), (at' : Int), (f, t, ()), ()), ((l, ep, ()), ())) = some P ∧ GoodM l ep at' f t P) ∨ ((g_flat_maker_warm n).2.1 (((), (at' : Int), (f, t, ()), ()), ((l, ep, ()), ())) = none ∧ n ≤ 2 * (l.length - at'))
  | 0, at', f, t, ha, hw, f0, ft, t1 => .inr ⟨rfl, by omega⟩
  | n + 1, at', f, t, ha, hw, f0, ft, t1 => by
    have hd := flat_nth hn ha
    have hcons := drop_nod l ha
    obtain ⟨k, hk⟩ := id hw
    have hk' := hk
    rw [ops_drop l ha] at hk'
    rw [show g_flat_maker_warm (n + 1) = G_flat_maker_warm (g_flat_maker_warm n) from rfl]
    unfold G_flat_maker_warm
    dsimp only
    rw [ati_d zNod ha, bnd_mk]
    unfold GoodM
    rw [hcons]
    by_cases h6 : (nth zNod l at').1 = 6
    · left
      obtain ⟨P, p1, p2, p3⟩ := p_cycleF (nth zNod l at') (l.drop (at' + 1)) hd.1 h6 f t ep f0 ft (by omega)
      rw [decide_eq_true h6, cnd_t, p1, bnd_mk]
      exact ⟨P, rfl, p2, p3⟩
    rw [decide_eq_false h6, cnd_f]
    by_cases h7 : (nth zNod l at').1 = 7
    · left
      obtain ⟨P, p1, p2, p3⟩ := p_restartF (nth zNod l at') (l.drop (at' + 1)) l hd h7 f t ep f0 ft (by omega) e0 e1
      rw [decide_eq_true h7, cnd_t, p1, bnd_mk]
      exact ⟨P, rfl, p2, p3⟩
    rw [decide_eq_false h7, cnd_f]
    have hwn := wn_range hd.1 (t - f) ep (by omega) (by omega) e0 e1
    by_cases h8 : (nth zNod l at').1 = 8
    · rw [decide_eq_true h8, cnd_t]
      have hkid : ∃ k1, walk ((opsN l).drop (at' + 1)) 1 = some k1 := by
        rcases whole_kids l ha hk with h | ⟨_, h⟩ | ⟨h, _⟩
        · rw [arN_8 h8] at h; cases h
        · exact h
        · rw [arN_8 h8] at h; cases h
      obtain ⟨k1, hk1⟩ := hkid
      have ha1 := inl_at l hk1
      have hdep := (bel_1 l ha (arN_8 h8)).2
      match n with
      | 0 => exact .inr ⟨rfl, by omega⟩
      | m + 1 =>
        rw [show g_flat_maker_warm (m + 1) = G_flat_maker_warm (g_flat_maker_warm m) from rfl]
        unfold G_flat_maker_warm
        dsimp only
        rw [ati_d zNod ha, bnd_mk, p_lastsF () (nth zNod l at') hd.1 f t ep l (by omega) f0 (by omega) e0 e1, bnd_mk]
        generalize hwv : WN (nth zNod l at') (t - f) ep = w at *
        rw [wr_id (x := (at' : Int) + 1) (by omega) (by omega), wr_id (x := f + w) (by omega) (by omega), wr_id (x := f + w + 1) (by omega) (by omega), show (at' : Int) + 1 = ((at' + 1 : Nat) : Int) by omega]
        have hmx : ∃ t', maxL t [f + w + 1] = t' ∧ t' = (if t < f + w + 1 then f + w + 1 else t) := ⟨_, rfl, by simp only [maxL]⟩
        obtain ⟨t', hm1, hm2⟩ := hmx
        rw [hm1]
        have ht' : f + w < t' ∧ t' ≤ t + 1 ∧ t ≤ t' := by rw [hm2]; split <;> omega
        rcases make_r m (at' + 1) (f + w) t' ha1 ⟨k1, hk1⟩ (by omega) (by omega) (by omega) with ⟨P, p1, p2, p3⟩ | ⟨p1, p2⟩
        · left
          have hPl := chain_le P _ _ _ p2
          obtain ⟨hs, hf⟩ := chain_segs P _ _ _ p2
          have hP0 : 0 < P.length := by
            cases P with
            | nil => have : f + w = t' := p2; omega
            | cons s r => simp
          have hfirst := (chain_at P _ _ _ p2 (by omega) hP0 (f + w)).1 (by omega) (by omega)
          rw [Int.sub_self] at hfirst
          rw [p1, bnd_mk, hfirst.1, bnd_mk]
          dsimp only
          rw [wr_id (x := f + w - f) (by omega) (by omega), wr_id (x := f + w - f + 1) (by omega) (by omega)]
          have hd' := hd.1
          unfold NodeOk at hd'
          have hleft : t' - (f + w) = if t - f - w < 1 then 1 else t - f - w := by rw [hm2]; split <;> split <;> omega
          have hA : ∀ i, AtS ep (nth zNod l at' :: l.drop (at' + 1)) i (t - f) = if i < w then CurveS (2, (nth zNod l at').2.1, AtS ep (l.drop (at' + 1)) 0 (t' - (f + w)), 0, ()) i (w + 1) else AtS ep (l.drop (at' + 1)) (i - w) (t - f - w) := fun i => by
            rw [AtS, if_neg h6, if_neg h7, if_pos h8, hwv, hleft]
          simp only [hA]
          rw [PcS, if_neg (by omega), if_neg h6, if_pos h8, hwv]
          obtain ⟨U, u1, u2, u3⟩ := p_piece f (f + w) (f + w - f + 1) (2, (nth zNod l at').2.1, AtS ep (l.drop (at' + 1)) 0 (t' - (f + w)), 0, ()) (fun step => if step - f < w then CurveS (2, (nth zNod l at').2.1, AtS ep (l.drop (at' + 1)) 0 (t' - (f + w)), 0, ()) (step - f) (w + 1) else AtS ep (l.drop (at' + 1)) (step - f - w) (t - f - w)) f0 (by omega) (by omega) (line_ok _ _ _ (.inl rfl) (by omega) hfirst.2) (by omega) (by omega) (fun step a b => by
            rw [if_pos (by omega), show f + w - f + 1 = w + 1 by omega])
          rw [u1, bnd_mk]
          by_cases hend : f + w = t
          · rw [decide_eq_true hend, cnd_t]
            refine ⟨U, rfl, chain_end U f _ t _ hend u2, ?_⟩
            rw [u3, if_neg (by omega), if_neg (by omega)]
            have : PcS ep (l.drop (at' + 1)) (t - f - w) = 0 := by
              rw [drop_nod l ha1, PcS, if_pos (by omega)]
            rw [this]
          · have ht2 : t' = t := by rw [hm2, if_neg (by omega)]
            subst ht2
            rw [decide_eq_false hend, cnd_f, app_ok (by rw [u3]; split <;> omega), bnd_mk]
            refine ⟨_, rfl, chain_app U P _ _ _ _ u2 (chain_congr P _ _ _ _ (fun step a b => ?_) p2), ?_⟩
            · rw [if_neg (by omega), show step - (f + w) = step - f - w by omega, show t' - (f + w) = t' - f - w by omega]
            · rw [List.length_append, u3, p3, show t' - (f + w) = t' - f - w by omega]
              by_cases hw0 : w = 0
              · rw [if_pos (by omega), if_pos hw0, hw0, Int.sub_zero]; omega
              · rw [if_neg (by omega), if_neg hw0]
        · right
          refine ⟨?_, by omega⟩
          rw [p1]; rfl
    rw [decide_eq_false h8, cnd_f]
    by_cases h9 : (nth zNod l at').1 = 9
    · rw [decide_eq_true h9, cnd_t]
      have hkid : ∃ k1 k2, walk ((opsN l).drop (at' + 1)) 1 = some k1 ∧ walk ((opsN l).drop (at' + 1 + k1)) 1 = some k2 ∧ 0 < k1 := by
        rcases whole_kids l ha hk with h | ⟨h, _⟩ | ⟨_, h⟩
        · rw [arN_9 h9] at h; cases h
        · rw [arN_9 h9] at h; cases h
        · exact h
      obtain ⟨k1, k2, hk1, hk2, hk0⟩ := hkid
      have ha1 := inl_at l hk1
      have ha2 := inl_at l hk2
      obtain ⟨hbel, hdep⟩ := bel_2 l ha (arN_9 h9) hk1
      match n with
      | 0 => exact .inr ⟨rfl, by omega⟩
      | m + 1 =>
        rw [show g_flat_maker_warm (m + 1) = G_flat_maker_warm (g_flat_maker_warm m) from rfl]
        unfold G_flat_maker_warm
        dsimp only
        rw [ati_d zNod ha, bnd_mk, p_lastsF () (nth zNod l at') hd.1 f t ep l (by omega) f0 (by omega) e0 e1, bnd_mk, p_below l at' (by omega) ha hw, bnd_mk, hbel]
        generalize hwv : WN (nth zNod l at') (t - f) ep = w at *
        rw [wr_id (x := f + w) (by omega) (by omega), show ati ([at' + 1, at' + 1 + k1].map fun j : Nat => (j : Int)) 0 = some ((at' + 1 : Nat) : Int) from rfl, show ati ([at' + 1, at' + 1 + k1].map fun j : Nat => (j : Int)) 1 = some ((at' + 1 + k1 : Nat) : Int) from rfl]
        simp only [bnd_mk]
        have hA : ∀ i, AtS ep (nth zNod l at' :: l.drop (at' + 1)) i (t - f) = if i < w then AtS ep (l.drop (at' + 1)) i w else AtS ep (l.drop (at' + 1 + k1)) (i - w) (t - f - w) := fun i => by
          rw [AtS, if_neg h6, if_neg h7, if_neg h8, if_pos h9, hwv, ops_dropL, hk1, Option.getD_some, List.drop_drop]
        have hPc : PcS ep (nth zNod l at' :: l.drop (at' + 1)) (t - f) = PcS ep (l.drop (at' + 1)) w + PcS ep (l.drop (at' + 1 + k1)) (t - f - w) := by
          rw [PcS, if_neg (by omega), if_neg h6, if_neg h8, if_pos h9, hwv, ops_dropL, hk1, Option.getD_some, List.drop_drop]
        simp only [hA]
        rw [hPc]
        have first : (∃ U, (bnd (cnd (decide (f < f + w)) (bnd ((g_flat_maker_warm m).2.1 (((), ((at' + 1 : Nat) : Int), (f, f + w, ()), ()), ((l, ep, ()), ()))) fun r6 => some (r6, ())) (some ([], ()))) (fun j : List SegD × Unit => some j)) = some (U, ()) ∧ Chain U f (f + w) (fun step => if step - f < w then AtS ep (l.drop (at' + 1)) (step - f) w else AtS ep (l.drop (at' + 1 + k1)) (step - f - w) (t - f - w)) ∧ U.length = PcS ep (l.drop (at' + 1)) w) ∨ ((bnd (cnd (decide (f < f + w)) (bnd ((g_flat_maker_warm m).2.1 (((), ((at' + 1 : Nat) : Int), (f, f + w, ()), ()), ((l, ep, ()), ()))) fun r6 => some (r6, ())) (some ([], ()))) (fun j : List SegD × Unit => some j)) = none ∧ m ≤ 2 * (l.length - (at' + 1))) := by
          by_cases hw0 : f < f + w
          · rw [decide_eq_true hw0, cnd_t]
            rcases make_r m (at' + 1) f (f + w) ha1 ⟨k1, hk1⟩ f0 hw0 (by omega) with ⟨P, p1, p2, p3⟩ | ⟨p1, p2⟩
            · left
              rw [p1]
              refine ⟨P, rfl, chain_congr P _ _ _ _ (fun step a b => ?_) p2, by rw [p3, show f + w - f = w by omega]⟩
              rw [if_pos (by omega), show f + w - f = w by omega]
            · right
              rw [p1]
              exact ⟨rfl, p2⟩
          · left
            rw [decide_eq_false hw0, cnd_f]
            refine ⟨[], rfl, by show f = f + w; omega, ?_⟩
            rw [drop_nod l ha1, PcS, if_pos (by omega)]; rfl
        have hsplit : ∀ {β : Type} (x : Option (List SegD × Unit)) (K : List SegD × Unit → Option β), bnd x K = bnd (bnd x fun j => some j) K := fun x K => by rw [bnd_eta]
        rw [hsplit]
        rcases first with ⟨U, u1, u2, u3⟩ | ⟨u1, u2⟩
        · rw [u1, bnd_mk]
          have hUl := chain_le U _ _ _ u2
          by_cases hw1 : f + w < t
          · rw [decide_eq_true hw1, cnd_t]
            rcases make_r m (at' + 1 + k1) (f + w) t ha2 ⟨k2, hk2⟩ (by omega) hw1 (by omega) with ⟨P, p1, p2, p3⟩ | ⟨p1, p2⟩
            · left
              have hPl := chain_le P _ _ _ p2
              rw [p1, bnd_mk, app_ok (by dsimp only; omega)]
              refine ⟨_, rfl, chain_app U P _ _ _ _ u2 (chain_congr P _ _ _ _ (fun step a b => ?_) p2), ?_⟩
              · rw [if_neg (by omega), show step - (f + w) = step - f - w by omega, show t - (f + w) = t - f - w by omega]
              · rw [List.length_append, u3, p3, show t - (f + w) = t - f - w by omega]
            · right
              refine ⟨?_, by omega⟩
              rw [p1]; rfl
          · left
            rw [decide_eq_false hw1, cnd_f]
            refine ⟨U, rfl, chain_end U f _ t _ (by omega) u2, ?_⟩
            rw [u3, drop_nod l ha2, PcS, if_pos (by omega)]; rfl
        · right
          refine ⟨?_, by omega⟩
          rw [u1]; rfl
    · left
      have hd' := hd.1
      unfold NodeOk at hd'
      rw [decide_eq_false h9, cnd_f]
      obtain ⟨P, p1, p2, p3⟩ := p_leafF (nth zNod l at') (l.drop (at' + 1)) hd (by omega) f t ep f0 ft (by omega)
      exact ⟨P, p1, p2, p3⟩
theorem make_ok (at' : Nat) (f t : Int) (ha : at' < l.length) (hw : WholeAt (opsN l) at') (f0 : 0 ≤ f) (ft : f < t) (t1 : t + dep ((opsN l).drop at') ≤ 1000100) :
    ∃ P, flat_maker_make (((), (at' : Int), (f, t, ()), ()), ((l, ep, ()), ())) = some P ∧ GoodM l ep at' f t P := by
  rcases make_r l ep hl hn e0 e1 (2 * l.length + 1) at' f t ha hw f0 ft t1 with ⟨P, p1, p2⟩ | ⟨_, h⟩
  · refine ⟨P, ?_, p2⟩
    unfold flat_maker_make
    exact rec_mono (F := flat_maker_make_r) (fun n x => (group_up n).2.1 x) (n := 2 * l.length + 1) p1
  · omega
end
end Go.Proofs.Ytggmomkohmcciaa.F
