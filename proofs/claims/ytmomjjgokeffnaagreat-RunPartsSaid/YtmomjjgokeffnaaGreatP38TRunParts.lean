/- What a step tells, by definition: its phase, its events, and their order. -/
import Derived.Test.YtmomjjgokeffnaaGreatP38SRunParts
set_option linter.unusedVariables false
set_option linter.unusedSectionVars false
set_option linter.unusedSimpArgs false
namespace Go.Proofs.YtmomjjgokeffnaaGreat.F
open Go.VX
open Classical
theorem phN_spec(step:Int):∀ l:List SpanD,(∃ i,i<l.length/\step<(nth zSpan l i).2.1)->phN l step<l.length/\step<(nth zSpan l (phN l step)).2.1/\∀ j,j<phN l step->(nth zSpan l j).2.1<=step
 | [],⟨i,h,_⟩=>by simp at h
 | t::r,⟨i,h,k⟩=>by
  unfold phN
  by_cases c:step<t.2.1
  ·rw[if_pos c]
   exact⟨by simp,c,fun j hj=>by omega⟩
  ·rw[if_neg c]
   have ih:=phN_spec step r (by
    cases i with
    | zero=>exact(c k).elim
    | succ i=>exact⟨i,by rw[List.length_cons] at h;omega,k⟩)
   refine⟨by rw[List.length_cons];omega,ih.2.1,fun j hj=>?_⟩
   cases j with
   | zero=>exact Int.not_lt.1 c
   | succ j=>exact ih.2.2 j (by omega)
theorem planD_phase{p:PlanD} (hp:PlanOkD p) {step:Int} (h0:0<=step) (h1:step<p.1) :
  phN p.2.2.2.2.2.1 step<p.2.2.2.2.2.1.length/\(nth zSpan p.2.2.2.2.2.1 (phN p.2.2.2.2.2.1 step)).1<=step/\step<(nth zSpan p.2.2.2.2.2.1 (phN p.2.2.2.2.2.1 step)).2.1/\∀ j,j<phN p.2.2.2.2.2.1 step->(nth zSpan p.2.2.2.2.2.1 j).2.1<=step:=by
 obtain⟨hh,⟨s1,s2,s3⟩,_⟩:=hp
 unfold HeadOk at hh
 have hl:0<p.2.2.2.2.2.1.length:=by
  by_cases hl:p.2.2.2.2.2.1.length=0
  ·rw[if_pos hl] at s2;omega
  ·omega
 rw[if_neg (by omega)] at s2
 have:=phN_spec step p.2.2.2.2.2.1 ⟨p.2.2.2.2.2.1.length-1,by omega,by rw[s2];exact h1⟩
 refine⟨this.1,?_,this.2⟩
 have hs:=(s1 _ this.1).2
 rw[hs]
 by_cases hz:phN p.2.2.2.2.2.1 step=0
 ·rw[if_pos hz];exact h0
 ·rw[if_neg hz]
  exact this.2.2 _ (by omega)
theorem planD_frozen{p:PlanD} (hp:PlanOkD p):p.2.2.2.2.2.2.1.length=p.2.2.2.2.2.1.length/\∀ i,i<p.2.2.2.2.2.2.1.length->((nth [] p.2.2.2.2.2.2.1 i).length:Int)=p.2.2.2.1:=⟨hp.2.2.1.2,hp.2.2.1.1⟩
theorem planD_groups{p:PlanD} (hp:PlanOkD p):1<=p.2.2.2.1/\p.2.2.2.1<=8/\(p.2.2.2.2.2.2.2.1.length:Int)=3*p.2.2.2.1:=by
 have h2:HeadOk _ _ _ _ _:=hp.1
 unfold HeadOk at h2
 have h1:=hp.2.2.2.1.2
 rw[wr_id (by omega) (by omega)] at h1
 omega
theorem planD_spans{p:PlanD} (hp:PlanOkD p):p.2.2.2.2.2.1.length<=16:=hp.2.1.2.2
def isF(p:PlanD) (n g:Nat):Bool:=nth false (nth [] p.2.2.2.2.2.2.1 n) g
def wasF(p:PlanD) (n g:Nat):Bool:=decide (0<n)&&isF p (n-1) g
def begN(p:PlanD) (step:Int) (n:Nat):Prop:=(nth zSpan p.2.2.2.2.2.1 n).1=step
noncomputable def evB(p:PlanD) (step:Int) (n:Nat):List EvD :=
 if begN p step n then [(step,1,(n:Int),())]++(evG (fun g=>isF p n g=false/\wasF p n g=true) step 2 p.2.2.2.1.toNat++evG (fun g=>isF p n g=true/\wasF p n g=false) step 3 p.2.2.2.1.toNat) else []
section
variable (p:PlanD) (s:StateD) (x:InD)
def missN(m:Nat):Prop:=(p.2.2.2.2.2.2.2.2.2.2.2.2.2.2.1=(m:Int)\/p.2.2.2.2.2.2.2.2.2.2.2.2.2.1=(m:Int)\/p.2.2.2.2.2.2.2.2.2.2.2.2.1=(m:Int))/\(nth zRd x.1 m).1=false
noncomputable def evM:List EvD:=if LkN p s then evG (missN p x) s.1 6 x.1.length else []
noncomputable def evK:List EvD:=if KeN p s x/\¬ ((putN p s x).2.2.1=true/\(putN p s x).2.1.1=s.1) then [(s.1,7,s.1,())] else []
noncomputable def evD:List EvD:=if KeN p s x/\(putN p s x).2.2.1=true/\(putN p s x).2.1.1≠s.1 then [(s.1,8,(putN p s x).2.1.1,())] else []
noncomputable def evC:List EvD:=if CuN p s x/\(cutR p s x).2=true then [(s.1,9,0,())] else []
noncomputable def evS:List EvD:=if OutN p s x then [(s.1,10,0,())] else []
noncomputable def evE:List EvD:=if s.1+1=p.1 then [(s.1,11,0,())] else []
noncomputable def evW:List EvD:=if SwN p s then [(s.1,4,s.2.2.2.2.2.2.2.1.1,())] else []
noncomputable def EvT:List EvD:=evB p s.1 (phN p.2.2.2.2.2.1 s.1)++if FailN p s x then [(s.1,5,0,())] else evW p s++(evM p s x++(evK p s x++(evD p s x++(evC p s x++(evS p s x++evE p s)))))
end
section
variable (p:PlanD) (s:StateD) (x:InD)
end
section
variable (p:PlanD) (s:StateD) (x:InD)
end
theorem len_if1{α:Type} (P:Prop) {_:Decidable P} (a:α):(if P then [a] else []).length<=1:=by split<;>simp
theorem evB_len(p:PlanD) (hp:PlanOkD p) (step:Int) (n:Nat):(evB p step n).length<=17:=by
 have hg:=planD_groups hp
 unfold evB
 split
 ·rw[List.length_append,List.length_append]
  have h1:=evG_len (fun g=>isF p n g=false/\wasF p n g=true) step 2 p.2.2.2.1.toNat
  have h2:=evG_len (fun g=>isF p n g=true/\wasF p n g=false) step 3 p.2.2.2.1.toNat
  simp only[List.length_singleton]
  omega
 ·simp
theorem evM_len(p:PlanD) (s:StateD) (x:InD):(evM p s x).length<=x.1.length:=by
 unfold evM
 split
 ·exact evG_len _ _ _ _
 ·simp
end Go.Proofs.YtmomjjgokeffnaaGreat.F
