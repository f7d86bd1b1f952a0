/- What steps tell: sameness. -/
import Derived.Test.YtmomjjgokeffnaaGreatP38LEngineOrder
set_option linter.unusedVariables false
set_option linter.unusedSectionVars false
set_option linter.unusedSimpArgs false
namespace Go.Proofs.YtmomjjgokeffnaaGreat.F
open Go.VX
open Classical
theorem evT_len(p:PlanD) (s:StateD) (x:InD) (H:StepH p s x):(EvT p s x).length<=40:=by
 have hbl:=evB_len p H.hp s.1 (phN p.2.2.2.2.2.1 s.1)
 have hml:=evX_len H
 have hkl:(evK p s x).length<=1:=len_if1 _ _
 have hdl:(evD p s x).length<=1:=len_if1 _ _
 have hcl:(evC p s x).length<=1:=len_if1 _ _
 have hsl:(evS p s x).length<=1:=len_if1 _ _
 have hwl:(evW p s).length<=1:=len_if1 _ _
 have hel:(evE p s).length<=1:=len_if1 _ _
 unfold EvT
 split
 ·simp only[List.length_append,List.length_singleton];omega
 ·simp only[List.length_append];omega
theorem stT_ins(p:PlanD) (s:StateD) (x:InD) (H:StepH p s x) (hI:InS s):InS (StT p s x):=by
 have hr:=stepH_range H
 have hl:=stepH_len H
 have hs:=stateD_len H.hp (step_ok p s x H.hp H.hs H.hg H.hx.2.1 (stepH_on H).1)
 have h1:(StT p s x).1=s.1+1:=by unfold StT;split<;>rfl
 refine⟨?_,by omega,by omega,by omega,?_⟩
 ·rw[h1];unfold In64;omega
 ·have hk:KRange (keptN p s x):=by
   unfold keptN
   by_cases h:KeN p s x
   ·rw[if_pos h]
    have hv:=valR_in H.hi.xr (stepH_on H).2.2.2.2.2 h.2
    unfold putN PutS
    have hput:∀ y∈putL' p.2.2.2.2.2.2.2.2.2.2.1.2.2.1 s.2.2.2.2.2.1 (s.1,valR x.1 p.2.2.2.2.2.2.2.2.2.2.2.2.2.2.1,()),In64 y.2.1:=by
     intro y hy
     unfold putL' at hy
     rcases List.mem_append.1 hy with hy | hy
     ·rcases List.mem_append.1 hy with hy | hy
      ·exact H.hi.kr y (List.mem_of_mem_take hy)
      ·rw[List.mem_singleton] at hy
       rw[hy];exact hv
     ·exact H.hi.kr y (List.mem_of_mem_drop hy)
    split
    ·exact hput
    ·exact fun y hy=>hput y (List.mem_of_mem_take hy)
   ·rw[if_neg h];exact H.hi.kr
  unfold StT
  split
  ·exact H.hi.kr
  ·exact hk
end Go.Proofs.YtmomjjgokeffnaaGreat.F
