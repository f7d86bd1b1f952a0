/- The turn: the program's step, piece by piece. -/
import Derived.Test.YtmomjjgokeffnaaGreatP38XEngineRates
set_option linter.unusedVariables false
set_option linter.unusedSectionVars false
set_option linter.unusedSimpArgs false
namespace Go.Proofs.YtmomjjgokeffnaaGreat.F
open Go.VX
open Classical
theorem p_phase(p:PlanD) (hp:PlanOkD p) (step:Int) (h0:0<=step) (h1:step<p.1):plan_Phase (p,step,())=some ((phN p.2.2.2.2.2.1 step:Nat):Int):=by
 have hn:=planD_phase hp h0 h1
 have hs:=planD_spans hp
 unfold plan_Phase phases_At slices_IndexFunc_regimen_api_Span_regimen_api_Span
 dsimp only
 rw[grow_loop _ (fun k=>((k:Int),())) (phN p.2.2.2.2.2.1 step) (.inr ((phN p.2.2.2.2.2.1 step:Nat):Int)) _ ?_ ?_ ?_]
 ·rfl
 ·rfl
 ·intro k hk
  have:=hn.2.2.2 k hk
  dsimp only
  rw[lt_true (by omega:k<p.2.2.2.2.2.1.length),cnd_t,ati_d zSpan (by omega:k<p.2.2.2.2.2.1.length),bnd_mk,wr_succ (n:=p.2.2.2.2.2.1.length) (by omega) (by omega)]
  unfold phases_At_1
  dsimp only
  rw[decide_eq_false (by omega:¬ step<(nth zSpan p.2.2.2.2.2.1 k).2.1)]
  cases decide ((nth zSpan p.2.2.2.2.2.1 k).1<=step)<;>rfl
 ·dsimp only
  rw[lt_true hn.1,cnd_t,ati_d zSpan hn.1,bnd_mk]
  unfold phases_At_1
  dsimp only
  rw[decide_eq_true hn.2.1,decide_eq_true hn.2.2.1]
  rfl
theorem r_phase(p:PlanD) (hp:PlanOkD p) (step:Int) (h0:0<=step) (h1:step<p.1):regimenref38_Phase (p,step,())=some ((phN p.2.2.2.2.2.1 step:Nat):Int):=by
 have hn:=planD_phase hp h0 h1
 have hs:=planD_spans hp
 unfold regimenref38_Phase
 dsimp only
 rw[grow_loop _ (fun k=>((k:Int),())) (phN p.2.2.2.2.2.1 step) (.inr ((phN p.2.2.2.2.2.1 step:Nat):Int)) _ ?_ ?_ ?_]
 ·rfl
 ·rfl
 ·intro k hk
  have:=hn.2.2.2 k hk
  dsimp only
  rw[lt_true (by omega:k<p.2.2.2.2.2.1.length),cnd_t,ati_d zSpan (by omega:k<p.2.2.2.2.2.1.length),bnd_mk,wr_succ (n:=p.2.2.2.2.2.1.length) (by omega) (by omega),decide_eq_false (by omega:¬ step<(nth zSpan p.2.2.2.2.2.1 k).2.1)]
  rfl
 ·dsimp only
  rw[lt_true hn.1,cnd_t,ati_d zSpan hn.1,bnd_mk,decide_eq_true hn.2.2.1]
  rfl
end Go.Proofs.YtmomjjgokeffnaaGreat.F
