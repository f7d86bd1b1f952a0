/- What a step tells, by definition: its phase, its events, and their order. -/
import Derived.Test.YtmomjjgokeffnaaGreatP38SEngineOrder
set_option linter.unusedVariables false
set_option linter.unusedSectionVars false
set_option linter.unusedSimpArgs false
namespace Go.Proofs.YtmomjjgokeffnaaGreat.F
open Go.VX
open Classical
theorem phN_spec(step:Int):∀ l:List SpanD,(∃ i,i<l.length/\step<(nth zSpan l i).2.1)->phN l step<l.length/\step<(nth zSpan l (phN l step)).2.1/\∀ j,j<phN l step->(nth zSpan l j).2.1<=step
 | [],⟨i,h,_⟩=>by simp at h
 | t::r,⟨i,h,k⟩=>by
  unfold phN
  by_cases c:step<t.2.1
  ·rw[if_pos c]
   exact⟨by simp,c,fun j hj=>by omega⟩
  ·rw[if_neg c]
   have ih:=phN_spec step r (by
    cases i with
    | zero=>exact(c k).elim
    | succ i=>exact⟨i,by rw[List.length_cons] at h;omega,k⟩)
   refine⟨by rw[List.length_cons];omega,ih.2.1,fun j hj=>?_⟩
   cases j with
   | zero=>exact Int.not_lt.1 c
   | succ j=>exact ih.2.2 j (by omega)
theorem planD_phase{p:PlanD} (hp:PlanOkD p) {step:Int} (h0:0<=step) (h1:step<p.1) :
  phN p.2.2.2.2.2.1 step<p.2.2.2.2.2.1.length/\(nth zSpan p.2.2.2.2.2.1 (phN p.2.2.2.2.2.1 step)).1<=step/\step<(nth zSpan p.2.2.2.2.2.1 (phN p.2.2.2.2.2.1 step)).2.1/\∀ j,j<phN p.2.2.2.2.2.1 step->(nth zSpan p.2.2.2.2.2.1 j).2.1<=step:=by
 obtain⟨hh,⟨s1,s2,s3⟩,_⟩:=hp
 unfold HeadOk at hh
 have hl:0<p.2.2.2.2.2.1.length:=by
  by_cases hl:p.2.2.2.2.2.1.length=0
  ·rw[if_pos hl] at s2;omega
  ·omega
 rw[if_neg (by omega)] at s2
 have:=phN_spec step p.2.2.2.2.2.1 ⟨p.2.2.2.2.2.1.length-1,by omega,by rw[s2];exact h1⟩
 refine⟨this.1,?_,this.2⟩
 have hs:=(s1 _ this.1).2
 rw[hs]
 by_cases hz:phN p.2.2.2.2.2.1 step=0
 ·rw[if_pos hz];exact h0
 ·rw[if_neg hz]
  exact this.2.2 _ (by omega)
theorem planD_frozen{p:PlanD} (hp:PlanOkD p):p.2.2.2.2.2.2.1.length=p.2.2.2.2.2.1.length/\∀ i,i<p.2.2.2.2.2.2.1.length->((nth [] p.2.2.2.2.2.2.1 i).length:Int)=p.2.2.2.1:=⟨hp.2.2.1.2,hp.2.2.1.1⟩
theorem planD_groups{p:PlanD} (hp:PlanOkD p):1<=p.2.2.2.1/\p.2.2.2.1<=8/\(p.2.2.2.2.2.2.2.1.length:Int)=3*p.2.2.2.1:=by
 have h2:HeadOk _ _ _ _ _:=hp.1
 unfold HeadOk at h2
 have h1:=hp.2.2.2.1.2
 rw[wr_id (by omega) (by omega)] at h1
 omega
theorem planD_spans{p:PlanD} (hp:PlanOkD p):p.2.2.2.2.2.1.length<=16:=hp.2.1.2.2
def isF(p:PlanD) (n g:Nat):Bool:=nth false (nth [] p.2.2.2.2.2.2.1 n) g
def wasF(p:PlanD) (n g:Nat):Bool:=decide (0<n)&&isF p (n-1) g
def begN(p:PlanD) (step:Int) (n:Nat):Prop:=(nth zSpan p.2.2.2.2.2.1 n).1=step
noncomputable def evB(p:PlanD) (step:Int) (n:Nat):List EvD :=
 if begN p step n then [(step,1,(n:Int),())]++(evG (fun g=>isF p n g=false/\wasF p n g=true) step 2 p.2.2.2.1.toNat++evG (fun g=>isF p n g=true/\wasF p n g=false) step 3 p.2.2.2.1.toNat) else []
section
variable (p:PlanD) (s:StateD) (x:InD)
def missN(m:Nat):Prop:=(p.2.2.2.2.2.2.2.2.2.2.2.2.2.2.1=(m:Int)\/p.2.2.2.2.2.2.2.2.2.2.2.2.2.1=(m:Int)\/p.2.2.2.2.2.2.2.2.2.2.2.2.1=(m:Int))/\(nth zRd x.1 m).1=false
noncomputable def evM:List EvD:=if LkN p s then evG (missN p x) s.1 6 x.1.length else []
noncomputable def evK:List EvD:=if KeN p s x/\¬ ((putN p s x).2.2.1=true/\(putN p s x).2.1.1=s.1) then [(s.1,7,s.1,())] else []
noncomputable def evD:List EvD:=if KeN p s x/\(putN p s x).2.2.1=true/\(putN p s x).2.1.1≠s.1 then [(s.1,8,(putN p s x).2.1.1,())] else []
noncomputable def evC:List EvD:=if CuN p s x/\(cutR p s x).2=true then [(s.1,9,0,())] else []
noncomputable def evS:List EvD:=if OutN p s x then [(s.1,10,0,())] else []
noncomputable def evE:List EvD:=if s.1+1=p.1 then [(s.1,11,0,())] else []
noncomputable def evW:List EvD:=if SwN p s then [(s.1,4,s.2.2.2.2.2.2.2.1.1,())] else []
noncomputable def EvT:List EvD:=evB p s.1 (phN p.2.2.2.2.2.1 s.1)++if FailN p s x then [(s.1,5,0,())] else evW p s++(evM p s x++(evK p s x++(evD p s x++(evC p s x++(evS p s x++evE p s)))))
end
def LtE(a b:EvD):Prop:=a.1<b.1\/(a.1=b.1/\(a.2.1<b.2.1\/(a.2.1=b.2.1/\a.2.2.1<b.2.2.1)))
def InK(step a b:Int) (l:List EvD):Prop:=List.Pairwise LtE l/\∀ e∈l,e.1=step/\a<=e.2.1/\e.2.1<=b
theorem inK_nil(step a b:Int):InK step a b []:=⟨List.Pairwise.nil,fun e h=>by cases h⟩
theorem inK_one(step a i:Int):InK step a a [(step,a,i,())]:=⟨List.pairwise_singleton _ _,fun e h=>by
 rw[List.mem_singleton] at h
 subst h
 exact⟨rfl,Int.le_refl _,Int.le_refl _⟩⟩
theorem inK_up{step a b a' b':Int} {l:List EvD} (h:InK step a b l) (h1:a'<=a) (h2:b<=b'):InK step a' b' l:=⟨h.1,fun e he=>by
 have:=h.2 e he
 exact⟨this.1,by omega,by omega⟩⟩
theorem inK_app{step a b c d:Int} {l m:List EvD} (h:InK step a b l) (k:InK step c d m) (hb:b<c) (ha:a<=c) (hd:b<=d):InK step a d (l++m):=by
 refine⟨List.pairwise_append.2 ⟨h.1,k.1,fun e he f hf=>?_⟩,fun e he=>?_⟩
 ·have h1:=h.2 e he
  have h2:=k.2 f hf
  exact .inr ⟨by omega,.inl (by omega)⟩
 ·rcases List.mem_append.1 he with he | he
  ·have:=h.2 e he
   exact⟨this.1,by omega,by omega⟩
  ·have:=k.2 e he
   exact⟨this.1,by omega,by omega⟩
theorem evG_mem(c:Nat->Prop) (step kind:Int):∀ k,∀ e∈evG c step kind k,e.1=step/\e.2.1=kind/\e.2.2.1<(k:Int)
 | 0,e,h=>by simp [evG] at h
 | k+1,e,h=>by
  simp only[evG] at h
  rcases List.mem_append.1 h with h | h
  ·have:=evG_mem c step kind k e h
   exact⟨this.1,this.2.1,by omega⟩
  ·split at h
   ·rw[List.mem_singleton] at h
    subst h
    exact⟨rfl,rfl,by dsimp only;omega⟩
   ·cases h
theorem evG_pair(c:Nat->Prop) (step kind:Int):∀ k,List.Pairwise LtE (evG c step kind k)
 | 0=>List.Pairwise.nil
 | k+1=>by
  simp only[evG]
  refine List.pairwise_append.2 ⟨evG_pair c step kind k,?_,fun e he f hf=>?_⟩
  ·split
   ·exact List.pairwise_singleton _ _
   ·exact List.Pairwise.nil
  ·split at hf
   ·rw[List.mem_singleton] at hf
    subst hf
    have:=evG_mem c step kind k e he
    exact .inr ⟨this.1,.inr ⟨this.2.1,this.2.2⟩⟩
   ·cases hf
theorem inK_G(c:Nat->Prop) (step kind:Int) (k:Nat):InK step kind kind (evG c step kind k):=⟨evG_pair c step kind k,fun e he=>by
 have:=evG_mem c step kind k e he
 exact⟨this.1,by omega,by omega⟩⟩
theorem inK_if(P:Prop) {_:Decidable P} (step a b:Int) (l:List EvD) (h:InK step a b l):InK step a b (if P then l else []):=by
 split
 ·exact h
 ·exact inK_nil _ _ _
section
variable (p:PlanD) (s:StateD) (x:InD)
theorem inK_B(n:Nat):InK s.1 1 3 (evB p s.1 n):=by
 unfold evB
 refine inK_if _ _ _ _ _ (inK_app (inK_one _ _ _) (inK_app (inK_G _ _ 2 _) (inK_G _ _ 3 _) ?_ ?_ ?_) ?_ ?_ ?_)<;>omega
theorem inK_rest:InK s.1 4 11 (evW p s++(evM p s x++(evK p s x++(evD p s x++(evC p s x++(evS p s x++evE p s)))))):=by
 unfold evW evM evK evD evC evS evE
 refine inK_app (inK_if _ _ 4 4 _ (inK_one _ _ _)) (inK_app (inK_if _ _ 6 6 _ (inK_G _ _ _ _)) (inK_app (inK_if _ _ 7 7 _ (inK_one _ _ _)) (inK_app (inK_if _ _ 8 8 _ (inK_one _ _ _)) (inK_app (inK_if _ _ 9 9 _ (inK_one _ _ _)) (inK_app (inK_if _ _ 10 10 _ (inK_one _ _ _)) (inK_if _ _ 11 11 _ (inK_one _ _ _)) ?_ ?_ ?_) ?_ ?_ ?_) ?_ ?_ ?_) ?_ ?_ ?_) ?_ ?_ ?_) ?_ ?_ ?_<;>omega
theorem inK_all:InK s.1 1 11 (EvT p s x):=by
 unfold EvT
 refine inK_app (c:=4) (d:=11) (inK_B p s _) ?_ (by omega) (by omega) (by omega)
 split
 ·exact inK_up (inK_one _ _ _) (by omega) (by omega)
 ·exact inK_rest p s x
end
def cntK(k:Int) (l:List EvD):Nat:=(l.filter fun e=>decide (e.2.1=k)).length
theorem cntK_app(k:Int) (a b:List EvD):cntK k (a++b)=cntK k a+cntK k b:=by
 unfold cntK
 rw[List.filter_append,List.length_append]
theorem cntK_no{step a b k:Int} {l:List EvD} (h:InK step a b l) (hk:k<a\/b<k):cntK k l=0:=by
 unfold cntK
 rw[List.length_eq_zero_iff,List.filter_eq_nil_iff]
 intro e he
 have:=h.2 e he
 rw[decide_eq_true_eq]
 omega
theorem cntK_one(k step i:Int) (P:Prop) {_:Decidable P}:cntK k (if P then [(step,k,i,())] else [])=if P then 1 else 0:=by
 split
 ·unfold cntK;simp
 ·rfl
section
variable (p:PlanD) (s:StateD) (x:InD)
theorem cnt_fail:cntK 5 (EvT p s x)=if FailN p s x then 1 else 0:=by
 unfold EvT
 rw[cntK_app,cntK_no (inK_B p s _) (by omega)]
 split
 ·unfold cntK;simp
 ·unfold evW evM evK evD evC evS evE
  rw[cntK_app,cntK_app,cntK_app,cntK_app,cntK_app,cntK_app,cntK_no (inK_if _ _ 4 4 _ (inK_one _ _ _)) (by omega),cntK_no (inK_if _ _ 6 6 _ (inK_G _ _ _ _)) (by omega),cntK_no (inK_if _ _ 7 7 _ (inK_one _ _ _)) (by omega),cntK_no (inK_if _ _ 8 8 _ (inK_one _ _ _)) (by omega),cntK_no (inK_if _ _ 9 9 _ (inK_one _ _ _)) (by omega),cntK_no (inK_if _ _ 10 10 _ (inK_one _ _ _)) (by omega),cntK_no (inK_if _ _ 11 11 _ (inK_one _ _ _)) (by omega)]
theorem cnt_stop:cntK 10 (EvT p s x)=if ¬ FailN p s x/\OutN p s x then 1 else 0:=by
 unfold EvT
 rw[cntK_app,cntK_no (inK_B p s _) (by omega)]
 split
 ·rename_i h
  rw[cntK_no (inK_one _ _ _) (by omega),if_neg (fun k=>k.1 h)]
 ·rename_i h
  unfold evW evM evK evD evC evS evE
  rw[cntK_app,cntK_app,cntK_app,cntK_app,cntK_app,cntK_app,cntK_no (inK_if _ _ 4 4 _ (inK_one _ _ _)) (by omega),cntK_no (inK_if _ _ 6 6 _ (inK_G _ _ _ _)) (by omega),cntK_no (inK_if _ _ 7 7 _ (inK_one _ _ _)) (by omega),cntK_no (inK_if _ _ 8 8 _ (inK_one _ _ _)) (by omega),cntK_no (inK_if _ _ 9 9 _ (inK_one _ _ _)) (by omega),cntK_one,cntK_no (inK_if _ _ 11 11 _ (inK_one _ _ _)) (by omega)]
  by_cases ho:OutN p s x
  ·rw[if_pos ho,if_pos ⟨h,ho⟩]
  ·rw[if_neg ho,if_neg (fun k=>ho k.2)]
theorem cnt_end:cntK 11 (EvT p s x)=if ¬ FailN p s x/\s.1+1=p.1 then 1 else 0:=by
 unfold EvT
 rw[cntK_app,cntK_no (inK_B p s _) (by omega)]
 split
 ·rename_i h
  rw[cntK_no (inK_one _ _ _) (by omega),if_neg (fun k=>k.1 h)]
 ·rename_i h
  unfold evW evM evK evD evC evS evE
  rw[cntK_app,cntK_app,cntK_app,cntK_app,cntK_app,cntK_app,cntK_no (inK_if _ _ 4 4 _ (inK_one _ _ _)) (by omega),cntK_no (inK_if _ _ 6 6 _ (inK_G _ _ _ _)) (by omega),cntK_no (inK_if _ _ 7 7 _ (inK_one _ _ _)) (by omega),cntK_no (inK_if _ _ 8 8 _ (inK_one _ _ _)) (by omega),cntK_no (inK_if _ _ 9 9 _ (inK_one _ _ _)) (by omega),cntK_no (inK_if _ _ 10 10 _ (inK_one _ _ _)) (by omega),cntK_one]
  by_cases ho:s.1+1=p.1
  ·rw[if_pos ho,if_pos ⟨h,ho⟩]
  ·rw[if_neg ho,if_neg (fun k=>ho k.2)]
end
theorem len_if1{α:Type} (P:Prop) {_:Decidable P} (a:α):(if P then [a] else []).length<=1:=by split<;>simp
theorem evB_len(p:PlanD) (hp:PlanOkD p) (step:Int) (n:Nat):(evB p step n).length<=17:=by
 have hg:=planD_groups hp
 unfold evB
 split
 ·rw[List.length_append,List.length_append]
  have h1:=evG_len (fun g=>isF p n g=false/\wasF p n g=true) step 2 p.2.2.2.1.toNat
  have h2:=evG_len (fun g=>isF p n g=true/\wasF p n g=false) step 3 p.2.2.2.1.toNat
  simp only[List.length_singleton]
  omega
 ·simp
theorem evM_len(p:PlanD) (s:StateD) (x:InD):(evM p s x).length<=x.1.length:=by
 unfold evM
 split
 ·exact evG_len _ _ _ _
 ·simp
end Go.Proofs.YtmomjjgokeffnaaGreat.F
