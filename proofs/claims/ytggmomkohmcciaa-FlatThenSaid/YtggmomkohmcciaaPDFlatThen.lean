/- Digits: quotients, rounded; the reference's product of fixed-point numbers. -/
import Derived.Test.YtggmomkohmcciaaPCFlatThen
set_option linter.unusedVariables false
set_option linter.unusedSimpArgs false
namespace Go.Proofs.Ytggmomkohmcciaa.F
open Go.VX

theorem halves (d : Int) (hd : 0 ≤ d ∧ d < 65536) (k : Nat) (hk : k ≤ 15) : loopP (fun (s7 : Int × Int × Unit) => cnd (decide (s7.2.1 < 15)) (inlE (wr .u64 (Int.tdiv s7.1 2), wr .i64 (s7.2.1 + 1), ())) (inrE (some (s7.1, ())))) (d, (k : Int), ()) = some (d / 2 ^ (15 - k), ()) := by
  obtain ⟨r, e, h⟩ := loop_rule (f := (fun (s7 : Int × Int × Unit) => cnd (decide (s7.2.1 < 15)) (inlE (wr .u64 (Int.tdiv s7.1 2), wr .i64 (s7.2.1 + 1), ())) (inrE (some (s7.1, ())))))
    (fun s => 0 ≤ s.2.1 ∧ s.2.1 ≤ 15 ∧ 0 ≤ s.1 ∧ s.1 < 65536 ∧ s.1 / 2 ^ (15 - s.2.1.toNat) = d / 2 ^ (15 - k)) (fun s => 15 - s.2.1.toNat) (fun r => r = (d / 2 ^ (15 - k), ())) (fun s ⟨i0, i1, i2, i3, i4⟩ => by
      obtain ⟨x, m, _⟩ := s
      dsimp only at *
      by_cases hm : m < 15
      · left
        refine ⟨(x / 2, m + 1, ()), by rw [decide_eq_true hm, Int.tdiv_eq_ediv_of_nonneg i2, wru_id (by omega) (by omega), wr_id (by omega) (by omega)]; rfl, ⟨by dsimp only; omega, by dsimp only; omega, by dsimp only; omega, by dsimp only; omega, ?_⟩, by dsimp only; omega⟩
        dsimp only
        rw [← i4, show 15 - m.toNat = (15 - (m + 1).toNat) + 1 by omega, Int.pow_succ, Int.mul_comm, Int.ediv_ediv_of_nonneg (by omega)]
      · right
        have : m = 15 := by omega
        subst this
        refine ⟨(x, ()), rfl, ?_⟩
        simp at i4
        rw [i4]) (d, (k : Int), ()) ⟨by simp, by dsimp only; omega, hd.1, hd.2, rfl⟩
  rw [e, h]

end Go.Proofs.Ytggmomkohmcciaa.F
