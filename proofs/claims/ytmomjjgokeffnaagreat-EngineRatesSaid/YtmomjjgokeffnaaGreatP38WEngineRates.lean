/- The pieces of a step, of the program and of the reference: rules, watches, cuts, averages, what is kept, readings. -/
import Derived.Test.YtmomjjgokeffnaaGreatP38TEngineRates
import Derived.Test.YtmomjjgokeffnaaGreatP0LEngineRates
import Derived.Test.YtmomjjgokeffnaaGreatPIEngineRates
import Derived.Test.YtmomjjgokeffnaaGreatPREngineRates
import Derived.Test.YtmomjjgokeffnaaGreatPSEngineRates
import Derived.Test.YtmomjjgokeffnaaGreatPVEngineRates
set_option linter.unusedVariables false
set_option linter.unusedSectionVars false
set_option linter.unusedSimpArgs false
namespace Go.Proofs.YtmomjjgokeffnaaGreat.F
open Go.VX
open Classical
theorem grow_loop{σ ρ:Type} (f:σ->Option (σ ⊕ ρ)) (st:Nat->σ) (n:Nat) (r:ρ) (s0:σ) (h0:st 0=s0) (h1:∀ k,k<n->f (st k)=some (.inl (st (k+1)))) (h2:f (st n)=some (.inr r)):loopP f s0=some r:=by
 subst h0
 have key:∀ k,k<=n->loopP f (st 0)=loopP f (st k):=by
  intro k
  induction k with
  | zero=>intro _;rfl
  | succ k ih=>intro hk;rw[ih (by omega),loopP_step (h1 k (by omega))]
 rw[key n (Nat.le_refl _),loopP_done h2]
def RateS(sc v fl:Int):Int:=if tm v sc<(if fl<v then fl else v) then(if fl<v then fl else v) else tm v sc
theorem rate_in(sc v fl:Int) (s0:0<=sc) (s1:sc<=4294967296) (v0:0<=v) (f0:0<=fl):0<=RateS sc v fl/\RateS sc v fl<=v/\(if fl<v then fl else v)<=RateS sc v fl:=by
 have h:=tm_le v0 s0 s1
 unfold RateS
 split<;>split<;>omega
theorem p_prate(c:CutSD) (v fl:Int) (s0:0<=c.2.2.1) (s1:c.2.2.1<=4294967296) (v0:0<=v) (v1:v<=4503599627370496):plat_Rate (c,v,fl,())=some (RateS c.2.2.1 v fl):=by
 unfold plat_Rate RateS
 dsimp only
 rw[decide_eq_false (by omega:¬ c.2.2.1<0),decide_eq_false (by omega:¬ c.2.2.1>4294967296),p_fixmul v c.2.2.1 (by omega) (by omega) (by omega) (by omega),mul_nn v c.2.2.1 v0 v1 s0 s1]
 simp only[Bool.not_false,cnd_t,bnd_mk,cnd_f,maxL,minL]
 rfl
end Go.Proofs.YtmomjjgokeffnaaGreat.F
