/- slices.Insert, walked road by road, at the places of this seat. -/
import Derived.Test.YtmomjjgokeffnaaGreatVx3
import Derived.Test.YtmomjjgokeffnaaGreatProg
import Derived.KernelRfl
set_option linter.unusedVariables false
set_option linter.unusedSimpArgs false
namespace Go.Proofs.YtmomjjgokeffnaaGreat.F
open Go.Shelf Go.RowKit Go.Lib Go.VX Go.Proofs
theorem info213 : (Tryz.prog.info? 119).map (fun i => (i.size, i.bytes)) = some (2, 16) := by kernel_rfl
theorem ntm213 : Tryz.f213.ntmps = 95 := by rfl
set_option maxHeartbeats 4000000 in
set_option maxRecDepth 100000 in
theorem shift213 (b off n c i vb voff m vc : Nat) (w w1 w2 : World) (hi : i < n) (hm : 0 < m) (hroom : n + m ≤ c) (h63 : n + m ≤ 9223372036854775807)
    (hov : ∀ cb, (callFunc 221 #[.slice (some ⟨vb, voff, none⟩) m vc, .slice (some ⟨b, off + (i + m) * 2, none⟩) (n + m - (i + m)) cb]).run Tryz.prog w = .ok (.value (.bool false)) w)
    (hcp1 : ∀ ty dc sc, (Builtin.copy_ #[39, 39] ty #[.slice (some ⟨b, off + (i + m) * 2, none⟩) (n + m - (i + m)) dc, .slice (some ⟨b, off + i * 2, none⟩) (n + m - i) sc]).run Tryz.prog w.drew = .ok (goInt (n - i)) w1)
    (hcp2 : ∀ ty dc, (Builtin.copy_ #[39, 39] ty #[.slice (some ⟨b, off + i * 2, none⟩) (n + m - i) dc, .slice (some ⟨vb, voff, none⟩) m vc]).run Tryz.prog w1 = .ok (goInt m) w2) :
    Calls Tryz.prog 213 #[.slice (some ⟨b, off, none⟩) n c, .int .i64 i, .slice (some ⟨vb, voff, none⟩) m vc] w fun e w' =>
      e = .returned (.slice (some ⟨b, off, none⟩) (n + m) c) ∧ w' = w2 := by
  have u0 := run_underlying Tryz.underlying39
  have hz1 : ¬ ((m : Int) = 0) := by omega
  have hz2 : ¬ ((i : Int) = (n : Int)) := by omega
  have hin : i ≤ n := by omega
  have hw1 : IntKind.i64.wrap ((i : Int) + (m : Int)) = (i : Int) + (m : Int) := by rw [IntKind.wrap_i64]; omega
  have hb1 : (0 : Int) ≤ (i : Int) + (m : Int) := by omega
  have htn : ((i : Int) + (m : Int)).toNat = i + m := by omega
  have hb2 : ¬ (c = i + m) := by omega
  have hb3 : (i : Int) ≤ (n : Int) + (m : Int) := by omega
  have hb4 : ¬ (c = i) := by omega
  obtain ⟨i0, hi0, hzs, hzb⟩ := info2 info213
  have mixed : Tryz.prog.follows .mixedOrders = true := by kernel_rfl
  go_enter Tryz.func213, ntm213
  go_wp2_with (simp only [hov])
  go_region_law_o (refine step_copyK rfl _ _ 39 39 rfl _ _ (by simp [Act.eval, Act.put]) (by simp [Act.eval, Act.put]) (hcp1 _ _ _) ?_)
  go_wp2_with (at_builtin; refine wpList_copyK _ rfl _ _ 39 39 rfl _ _ rfl rfl (hcp2 _ _) ?_)
  go_ret
  exact ⟨rfl, rfl⟩

set_option maxHeartbeats 4000000 in
set_option maxRecDepth 100000 in
theorem grow213 (b off n c i vb voff m vc B G : Nat) (w w1 w2 w3 : World) (hi : i < n) (hm : 0 < m) (hnc : n ≤ c) (hroom : c < n + m) (hG : n + m ≤ G) (h63 : n + m ≤ 9223372036854775807)
    (hrz : ∀ ty, (Builtin.append_ #[39, 3] ty #[.slice (some ⟨b, off, none⟩) i c, .int .i64 ((n : Int) + (m : Int) - (i : Int))]).run Tryz.prog w = .ok (.slice (some ⟨B, 0, none⟩) (n + m) G) w1)
    (hcp1 : ∀ ty dc, (Builtin.copy_ #[39, 39] ty #[.slice (some ⟨B, i * 2, none⟩) (n + m - i) dc, .slice (some ⟨vb, voff, none⟩) m vc]).run Tryz.prog w1 = .ok (goInt m) w2)
    (hcp2 : ∀ ty dc sc, (Builtin.copy_ #[39, 39] ty #[.slice (some ⟨B, (i + m) * 2, none⟩) (n + m - (i + m)) dc, .slice (some ⟨b, off + i * 2, none⟩) (n - i) sc]).run Tryz.prog w2.drew = .ok (goInt (n - i)) w3) :
    Calls Tryz.prog 213 #[.slice (some ⟨b, off, none⟩) n c, .int .i64 i, .slice (some ⟨vb, voff, none⟩) m vc] w fun e w' =>
      e = .returned (.slice (some ⟨B, 0, none⟩) (n + m) G) ∧ w' = w3 := by
  have u0 := run_underlying Tryz.underlying39
  have u3 := run_underlying Tryz.underlying3
  have hz1 : ¬ ((m : Int) = 0) := by omega
  have hz2 : ¬ ((i : Int) = (n : Int)) := by omega
  have hz3 : (c : Int) < (n : Int) + (m : Int) := by omega
  have hin : i ≤ n := by omega
  have hw1 : IntKind.i64.wrap ((i : Int) + (m : Int)) = (i : Int) + (m : Int) := by rw [IntKind.wrap_i64]; omega
  have hb1 : (0 : Int) ≤ (i : Int) + (m : Int) := by omega
  have htn : ((i : Int) + (m : Int)).toNat = i + m := by omega
  have hGi : ¬ (G = i) := by omega
  have hGim : ¬ (G = i + m) := by omega
  have hci : ¬ (c = i) := by omega
  have hb3 : (i : Int) ≤ (n : Int) := by omega
  obtain ⟨i0, hi0, hzs, hzb⟩ := info2 info213
  have mixed : Tryz.prog.follows .mixedOrders = true := by kernel_rfl
  go_enter Tryz.func213, ntm213
  go_wp2_with (first
    | (at_builtin; refine Lib.wpList_append_run _ rfl _ _ _ _ rfl _ _ rfl rfl _ _ (hrz _) ?_)
    | (at_builtin; refine wpList_copyK _ rfl _ _ 39 39 rfl _ _ rfl rfl (hcp1 _ _) ?_)
    | (at_builtin; refine wpList_copyK _ rfl _ _ 39 39 rfl _ _ rfl rfl (hcp2 _ _ _) ?_))
  go_region_law_o (refine step_copyK rfl _ _ 39 39 rfl (.slice (some ⟨B, (i + m) * 2, none⟩) (n + m - (i + m)) (G - (i + m))) (.slice (some ⟨b, off + i * 2, none⟩) (n - i) (c - i)) (by simp [Act.eval, Act.put]) (by simp [Act.eval, Act.put]) (hcp2 3 (G - (i + m)) (c - i)) ?_)
  go_wp2
  go_ret
  exact ⟨rfl, rfl⟩

set_option maxHeartbeats 4000000 in
set_option maxRecDepth 100000 in
theorem last213 (base : Option Addr) (n c vb voff m vc : Nat) (v' : Value) (w w1 : World) (hm : 0 < m) (hnc : n ≤ c) (hn63 : n ≤ 9223372036854775807) (hb : base = none → c = 0)
    (hap : ∀ ty, (Builtin.append_ #[39, 39] ty #[.slice base n c, .slice (some ⟨vb, voff, none⟩) m vc]).run Tryz.prog w = .ok v' w1) :
    Calls Tryz.prog 213 #[.slice base n c, .int .i64 n, .slice (some ⟨vb, voff, none⟩) m vc] w fun e w' => e = .returned v' ∧ w' = w1 := by
  have u0 := run_underlying Tryz.underlying39
  have hz1 : ¬ ((m : Int) = 0) := by omega
  obtain ⟨i0, hi0, hzs, hzb⟩ := info2 info213
  have mixed : Tryz.prog.follows .mixedOrders = true := by kernel_rfl
  cases base with
  | none =>
    have hc := hb rfl
    subst hc
    have hn : n = 0 := by omega
    subst hn
    go_enter Tryz.func213, ntm213
    go_wp2_with (at_builtin; refine Lib.wpList_append_run _ rfl _ _ _ _ rfl _ _ rfl rfl _ _ (hap _) ?_)
    go_ret
    exact ⟨rfl, rfl⟩
  | some a =>
    by_cases hcn : c = n
    · go_enter Tryz.func213, ntm213
      go_wp2_with (at_builtin; refine Lib.wpList_append_run _ rfl _ _ _ _ rfl _ _ rfl rfl _ _ (hap _) ?_)
      go_ret
      exact ⟨rfl, rfl⟩
    · go_enter Tryz.func213, ntm213
      go_wp2_with (at_builtin; refine Lib.wpList_append_run _ rfl _ _ _ _ rfl _ _ rfl rfl _ _ (hap _) ?_)
      go_ret
      exact ⟨rfl, rfl⟩
theorem s_ins_213 : InsOk Tryz.prog 213 39 := by
  obtain ⟨i0, hi0, hzs, hzb⟩ := info2 info213
  exact ⟨119, 3, 221, 2, i0, hi0, hzs,
    { body := ⟨_, Tryz.func213, by kernel_rfl, by kernel_rfl⟩
      und := Tryz.underlying39
      undI := Tryz.underlying3
      ovl := ⟨4, fun args w => run_callFunc_extern Tryz.func221 (by kernel_rfl) (by kernel_rfl) (by kernel_rfl) (e := Extern.SlicesOverlaps.overlaps #[39, 39] #[4]) (by kernel_rfl) args w⟩
      shift := fun b off n c i vb voff m vc w w1 w2 h1 h2 h3 h4 h5 h6 h7 => shift213 b off n c i vb voff m vc w w1 w2 h1 h2 h3 h4 h5 h6 h7
      grow := fun b off n c i vb voff m vc B G w w1 w2 w3 h1 h2 h3 h4 h5 h6 h7 h8 h9 => grow213 b off n c i vb voff m vc B G w w1 w2 w3 h1 h2 h3 h4 h5 h6 h7 h8 h9
      last := fun base n c vb voff m vc v' w w1 h1 h2 h3 h4 h5 => last213 base n c vb voff m vc v' w w1 h1 h2 h3 h4 h5 }⟩

end Go.Proofs.YtmomjjgokeffnaaGreat.F
