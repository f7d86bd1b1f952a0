/- What steps tell: sameness. -/
import Derived.Test.YtmomjjgokeffnaaGreatP38LRunParts
set_option linter.unusedVariables false
set_option linter.unusedSectionVars false
set_option linter.unusedSimpArgs false
namespace Go.Proofs.YtmomjjgokeffnaaGreat.F
open Go.VX
open Classical
theorem r_same27(a b:List EvD) (hl:a.length<=9223372036854775807):q27_Same (a,b,())=some (decide (a=b)):=by
 unfold q27_Same
 by_cases h:a.length=b.length
 ·rcases eq_loop (eqT (.pr (.int .i64) (.pr (.int .i64) (.pr (.int .i64) .unit)))) (eqT_iff _ rfl) a b h hl false (fun _=>some true) with⟨h1,h2⟩ | ⟨h1,h2⟩
  ·dsimp only
   rw[len_nat,decide_eq_true h,decide_eq_true h1]
   exact h2
  ·dsimp only
   rw[len_nat,decide_eq_true h,decide_eq_false h1]
   exact h2
 ·dsimp only
  rw[len_nat,decide_eq_false h,decide_eq_false (fun e=>h (by rw[e]))]
  rfl
theorem r_sameO(A B:OutD) (hv:A.2.2.1.length<=9223372036854775807) (hf:A.2.2.2.1.length<=9223372036854775807) (he:A.2.2.2.2.1.length<=9223372036854775807):q38_Same (A,B,())=some (decide (A=B)):=by
 obtain⟨a1,a2,a3,a4,a5,a6,_⟩:=A
 obtain⟨b1,b2,b3,b4,b5,b6,_⟩:=B
 dsimp only at hv hf he
 have no:∀ {z:Option Bool},z=some false->¬ ((a1,a2,a3,a4,a5,a6,()):OutD)=(b1,b2,b3,b4,b5,b6,())->z=some (decide (((a1,a2,a3,a4,a5,a6,()):OutD)=(b1,b2,b3,b4,b5,b6,()))):=fun e h=>e.trans (congrArg some (dec_no h))
 unfold q38_Same
 dsimp only
 rw[len_nat]
 by_cases h1:a1=b1
 rotate_left
 ·rw[decide_eq_false h1];exact no rfl (fun k=>h1 (by injection k))
 by_cases h2:a2=b2
 rotate_left
 ·rw[decide_eq_true h1,decide_eq_false h2];exact no rfl (fun k=>h2 (by injection k with _ k;injection k))
 by_cases h6:a6=b6
 rotate_left
 ·rw[decide_eq_true h1,decide_eq_true h2,decide_eq_false h6];exact no rfl (fun k=>h6 (by simp only[Prod.mk.injEq] at k;exact k.2.2.2.2.2.1))
 by_cases h4:a4.length=b4.length
 rotate_left
 ·rw[decide_eq_true h1,decide_eq_true h2,decide_eq_true h6,decide_eq_false h4];exact no rfl (fun k=>h4 (by simp only[Prod.mk.injEq] at k;rw[k.2.2.2.1]))
 rw[decide_eq_true h1,decide_eq_true h2,decide_eq_true h6,decide_eq_true h4]
 simp only[Bool.not_true,Bool.not_false,cnd_t,cnd_f,bnd_mk]
 rw[r_same01 a3 b3 hv,r_same27 a5 b5 he]
 rcases eq_loop (fun x y:Bool=>decide (x=y)) (fun x y=>by simp) a4 b4 h4 hf false (fun _=>bnd (some (decide (a3=b3))) fun r8=>bnd (cnd r8 (bnd (some (decide (a5=b5))) fun r9=>some r9) (some false)) fun j10=>some j10) with⟨h5,e⟩ | ⟨h5,e⟩
 ·refine e.trans ?_
  subst h1 h2 h6 h5
  by_cases h3:a3=b3
  ·subst h3
   by_cases h7:a5=b5
   ·subst h7
    rw[decide_eq_true rfl,decide_eq_true rfl]
    exact congrArg some (dec_yes rfl)
   ·rw[decide_eq_true rfl,decide_eq_false h7]
    exact no rfl (fun k=>h7 (by simp only[Prod.mk.injEq] at k;exact k.2.2.2.2.1))
  ·rw[decide_eq_false h3]
   exact no rfl (fun k=>h3 (by simp only[Prod.mk.injEq] at k;exact k.2.2.1))
 ·exact no e (fun k=>h5 (by simp only[Prod.mk.injEq] at k;exact k.2.2.2.1))
theorem evT_len(p:PlanD) (s:StateD) (x:InD) (H:StepH p s x):(EvT p s x).length<=40:=by
 have hbl:=evB_len p H.hp s.1 (phN p.2.2.2.2.2.1 s.1)
 have hml:=evX_len H
 have hkl:(evK p s x).length<=1:=len_if1 _ _
 have hdl:(evD p s x).length<=1:=len_if1 _ _
 have hcl:(evC p s x).length<=1:=len_if1 _ _
 have hsl:(evS p s x).length<=1:=len_if1 _ _
 have hwl:(evW p s).length<=1:=len_if1 _ _
 have hel:(evE p s).length<=1:=len_if1 _ _
 unfold EvT
 split
 ·simp only[List.length_append,List.length_singleton];omega
 ·simp only[List.length_append];omega
theorem outT_len(p:PlanD) (s:StateD) (x:InD) (H:StepH p s x):(OutT p s x).2.2.1.length<=24/\(OutT p s x).2.2.2.1.length<=8/\(OutT p s x).2.2.2.2.1.length<=40:=by
 have hr:=stepH_range H
 have hnt:=planD_ntracks H.hp
 have hg:=planD_groups H.hp
 have hf:=planD_frozen H.hp
 have hph:=planD_phase H.hp hr.1 hr.2.1
 have hv:=hf.2 (phN p.2.2.2.2.2.1 s.1) (by omega)
 have hvl:=valS_len p s.2.2.2.2.1 s.1 (phN p.2.2.2.2.2.1 s.1)
 unfold OutT
 exact⟨by dsimp only;omega,by dsimp only;omega,evT_len p s x H⟩
theorem stT_ins(p:PlanD) (s:StateD) (x:InD) (H:StepH p s x) (hI:InS s):InS (StT p s x):=by
 have hr:=stepH_range H
 have hl:=stepH_len H
 have hs:=stateD_len H.hp (step_ok p s x H.hp H.hs H.hg H.hx.2.1 (stepH_on H).1)
 have h1:(StT p s x).1=s.1+1:=by unfold StT;split<;>rfl
 refine⟨?_,by omega,by omega,by omega,?_⟩
 ·rw[h1];unfold In64;omega
 ·have hk:KRange (keptN p s x):=by
   unfold keptN
   by_cases h:KeN p s x
   ·rw[if_pos h]
    have hv:=valR_in H.hi.xr (stepH_on H).2.2.2.2.2 h.2
    unfold putN PutS
    have hput:∀ y∈putL' p.2.2.2.2.2.2.2.2.2.2.1.2.2.1 s.2.2.2.2.2.1 (s.1,valR x.1 p.2.2.2.2.2.2.2.2.2.2.2.2.2.2.1,()),In64 y.2.1:=by
     intro y hy
     unfold putL' at hy
     rcases List.mem_append.1 hy with hy | hy
     ·rcases List.mem_append.1 hy with hy | hy
      ·exact H.hi.kr y (List.mem_of_mem_take hy)
      ·rw[List.mem_singleton] at hy
       rw[hy];exact hv
     ·exact H.hi.kr y (List.mem_of_mem_drop hy)
    split
    ·exact hput
    ·exact fun y hy=>hput y (List.mem_of_mem_take hy)
   ·rw[if_neg h];exact H.hi.kr
  unfold StT
  split
  ·exact H.hi.kr
  ·exact hk
end Go.Proofs.YtmomjjgokeffnaaGreat.F
