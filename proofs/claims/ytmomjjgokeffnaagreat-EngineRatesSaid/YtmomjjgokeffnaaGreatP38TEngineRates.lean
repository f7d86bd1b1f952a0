/- What a step tells, by definition: its phase, its events, and their order. -/
import Derived.Test.YtmomjjgokeffnaaGreatP38SEngineRates
set_option linter.unusedVariables false
set_option linter.unusedSectionVars false
set_option linter.unusedSimpArgs false
namespace Go.Proofs.YtmomjjgokeffnaaGreat.F
open Go.VX
open Classical
theorem phN_spec(step:Int):∀ l:List SpanD,(∃ i,i<l.length/\step<(nth zSpan l i).2.1)->phN l step<l.length/\step<(nth zSpan l (phN l step)).2.1/\∀ j,j<phN l step->(nth zSpan l j).2.1<=step
 | [],⟨i,h,_⟩=>by simp at h
 | t::r,⟨i,h,k⟩=>by
  unfold phN
  by_cases c:step<t.2.1
  ·rw[if_pos c]
   exact⟨by simp,c,fun j hj=>by omega⟩
  ·rw[if_neg c]
   have ih:=phN_spec step r (by
    cases i with
    | zero=>exact(c k).elim
    | succ i=>exact⟨i,by rw[List.length_cons] at h;omega,k⟩)
   refine⟨by rw[List.length_cons];omega,ih.2.1,fun j hj=>?_⟩
   cases j with
   | zero=>exact Int.not_lt.1 c
   | succ j=>exact ih.2.2 j (by omega)
theorem planD_phase{p:PlanD} (hp:PlanOkD p) {step:Int} (h0:0<=step) (h1:step<p.1) :
  phN p.2.2.2.2.2.1 step<p.2.2.2.2.2.1.length/\(nth zSpan p.2.2.2.2.2.1 (phN p.2.2.2.2.2.1 step)).1<=step/\step<(nth zSpan p.2.2.2.2.2.1 (phN p.2.2.2.2.2.1 step)).2.1/\∀ j,j<phN p.2.2.2.2.2.1 step->(nth zSpan p.2.2.2.2.2.1 j).2.1<=step:=by
 obtain⟨hh,⟨s1,s2,s3⟩,_⟩:=hp
 unfold HeadOk at hh
 have hl:0<p.2.2.2.2.2.1.length:=by
  by_cases hl:p.2.2.2.2.2.1.length=0
  ·rw[if_pos hl] at s2;omega
  ·omega
 rw[if_neg (by omega)] at s2
 have:=phN_spec step p.2.2.2.2.2.1 ⟨p.2.2.2.2.2.1.length-1,by omega,by rw[s2];exact h1⟩
 refine⟨this.1,?_,this.2⟩
 have hs:=(s1 _ this.1).2
 rw[hs]
 by_cases hz:phN p.2.2.2.2.2.1 step=0
 ·rw[if_pos hz];exact h0
 ·rw[if_neg hz]
  exact this.2.2 _ (by omega)
theorem planD_frozen{p:PlanD} (hp:PlanOkD p):p.2.2.2.2.2.2.1.length=p.2.2.2.2.2.1.length/\∀ i,i<p.2.2.2.2.2.2.1.length->((nth [] p.2.2.2.2.2.2.1 i).length:Int)=p.2.2.2.1:=⟨hp.2.2.1.2,hp.2.2.1.1⟩
theorem planD_groups{p:PlanD} (hp:PlanOkD p):1<=p.2.2.2.1/\p.2.2.2.1<=8/\(p.2.2.2.2.2.2.2.1.length:Int)=3*p.2.2.2.1:=by
 have h2:HeadOk _ _ _ _ _:=hp.1
 unfold HeadOk at h2
 have h1:=hp.2.2.2.1.2
 rw[wr_id (by omega) (by omega)] at h1
 omega
theorem planD_spans{p:PlanD} (hp:PlanOkD p):p.2.2.2.2.2.1.length<=16:=hp.2.1.2.2
def isF(p:PlanD) (n g:Nat):Bool:=nth false (nth [] p.2.2.2.2.2.2.1 n) g
section
variable (p:PlanD) (s:StateD) (x:InD)
end
section
variable (p:PlanD) (s:StateD) (x:InD)
end
section
variable (p:PlanD) (s:StateD) (x:InD)
end
end Go.Proofs.YtmomjjgokeffnaaGreat.F
