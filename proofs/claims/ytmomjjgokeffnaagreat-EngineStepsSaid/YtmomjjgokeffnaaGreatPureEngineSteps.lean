/- The law EngineSteps, in plain Lean: of any plan, state and input the step that is taken, and what it tells; the state then may be. -/
import Derived.Test.YtmomjjgokeffnaaGreatVx3
import Derived.Test.YtmomjjgokeffnaaGreatP38OEngineSteps
import Derived.Test.YtmomjjgokeffnaaGreatP38AEngineSteps
set_option linter.unusedVariables false
set_option linter.unusedSimpArgs false
namespace Go.Proofs.YtmomjjgokeffnaaGreat.F
open Go.VX
open Classical
theorem z_ins:InS zSt:=⟨⟨by decide,by decide⟩,by decide,by decide,by decide,fun x hx=>by cases hx⟩
theorem pure_EngineSteps(x:Ty.D (.tu T34 (.tu T44 (.tu T47 .unit)))) (h:Ty.wf (.tu T34 (.tu T44 (.tu T47 .unit))) x):l38_EngineSteps x=some true:=by
 obtain⟨p,s,x,_⟩:=x
 obtain⟨hp,hs,hx,_⟩:=h
 change PlanD at p
 change StateD at s
 change InD at x
 have w:WfP p:=by
  obtain⟨a0,a1,a2,a3,a4,sp,fz,tr,st,cu,ke,em,o1,o2,o3,sf,se,_⟩:=p
  obtain⟨_,_,_,_,_,hsp,hfz,htr,_⟩:=hp
  exact⟨hsp.1,hfz.1,htr.1,fun t ht=>(htr.2 t ht).2.2.1.1⟩
 have hI:InS s:=⟨hs.1,hs.2.2.2.2.2.1.1,hs.2.2.2.2.2.2.1.1,hs.2.2.2.2.2.2.2.1.2.1.1,fun x hx=>(hs.2.2.2.2.2.1.2 x hx).2.1⟩
 have hE:InE s x:=⟨hs.2.2.2.1.2.1,hs.2.2.2.2.1.1.2.1,fun y hy=>hs.2.2.2.2.2.2.1.2 y hy,fun y hy=>hs.2.2.2.2.2.2.2.1.2.1.2 y hy,fun y hy=>(hs.2.2.2.2.2.1.2 y hy).2.1,fun y hy=>(hx.1.2 y hy).2.1,fun y hy=>hx.2.1.2 y hy⟩
 clear hp hs hx
 unfold l38_EngineSteps
 dsimp only
 rw[awake38]
 obtain⟨q,e,hq⟩:=light38 p s x
 rw[show l38_light (p,s,(x.1,x.2.1,x.2.2),())=some q from e,bnd_mk]
 cases q with
 | false=>rfl
 | true =>
 have hq:=hq rfl
 rw[Bool.not_true,cnd_f,p_vals p s w hI,r_mayD p w,show q35_May (p,(x.1,x.2.1,x.2.2),())=_ from r_rmay p x (by omega)]
 have hz1:q37_Same (zSt,zSt,())=some true:=(r_sameD zSt zSt z_ins).trans (congrArg some (decide_eq_true rfl))
 have hz2:q38_Same (zOut,zOut,())=some true:=(r_sameO zOut zOut (by decide) (by decide) (by decide)).trans (congrArg some (decide_eq_true rfl))
 by_cases hpk:PlanOkD p
 rotate_left
 ·rw[show engine_Step (p,s,(x.1,x.2.1,x.2.2),())=_ from p_Step_no p s x w hI (by omega) (fun k=>hpk k.1),if_neg (fun k=>hpk k.1),if_neg (fun k=>hpk k.1),decide_eq_false hpk]
  simp only[bnd_mk,Bool.not_true,Bool.not_false,cnd_t,cnd_f]
  rw[hz1,hz2]
  rfl
 rw[decide_eq_true hpk,r_stateD p s hpk hI]
 by_cases hsk:StateOkD p s
 rotate_left
 ·rw[show engine_Step (p,s,(x.1,x.2.1,x.2.2),())=_ from p_Step_no p s x w hI (by omega) (fun k=>hsk k.2.1)]
  have h1:(if PlanOkD p/\InOk p x then(if StateOkD p s then(10:Int) else 1) else 1)=1:=by rw[if_neg hsk];split<;>rfl
  rw[h1,if_neg (fun k:PlanOkD p/\StateOkD p s=>hsk k.2),decide_eq_false hsk]
  simp only[bnd_mk,Bool.not_true,Bool.not_false,cnd_t,cnd_f]
  rw[hz1,hz2]
  rfl
 rw[if_pos ⟨hpk,hsk⟩,decide_eq_true hsk]
 by_cases hg:s.2.1=0
 rotate_left
 ·rw[show engine_Step (p,s,(x.1,x.2.1,x.2.2),())=_ from p_Step_no p s x w hI (by omega) (fun k=>hg k.2.2.1),if_neg hg,if_pos hsk,decide_eq_false hg]
  simp only[bnd_mk,Bool.not_true,Bool.not_false,cnd_t,cnd_f]
  by_cases hxk:InOk p x
  ·rw[if_pos ⟨hpk,hxk⟩,decide_eq_true hxk]
   simp only[bnd_mk,Bool.not_true,Bool.not_false,cnd_t,cnd_f]
   rw[hz1,hz2]
   rfl
  ·rw[if_neg (fun k=>hxk k.2),decide_eq_false hxk]
   simp only[bnd_mk,Bool.not_true,Bool.not_false,cnd_t,cnd_f]
   rw[hz1,hz2]
   rfl
 have hr:0<=s.1/\s.1<p.1:=by
  rcases hsk.1 with q | q
  ·exact⟨q.2.1,q.2.2.1⟩
  ·rcases q.2 with q | q | q<;>(have:=q.1;rw[hg] at this;exact absurd this (by decide))
 have hc:=scOk_of hpk hsk
 have hnt:=planD_ntracks hpk
 have hvl:=valS_len p s.2.2.2.2.1 s.1 (phN p.2.2.2.2.2.1 s.1)
 rw[if_pos hg,decide_eq_true hg,show q38_Values (p,s.2.2.2.2.1,s.1,())=_ from r_values p s.2.2.2.2.1 hpk hc.1 s.1 hr.1 hr.2]
 simp only[bnd_mk,Bool.not_true,Bool.not_false,cnd_t,cnd_f]
 rw[r_same01 _ _ (by omega)]
 simp only[decide_true,bnd_mk,Bool.not_true,Bool.not_false,cnd_t,cnd_f]
 by_cases hxk:InOk p x
 rotate_left
 ·rw[show engine_Step (p,s,(x.1,x.2.1,x.2.2),())=_ from p_Step_no p s x w hI (by omega) (fun k=>hxk k.2.2.2),if_neg (fun k=>hxk k.2),decide_eq_false hxk]
  simp only[bnd_mk,Bool.not_true,Bool.not_false,cnd_t,cnd_f]
  rw[hz1,hz2]
  rfl
 have H:StepH p s x:=⟨hpk,hsk,hg,hxk,hE⟩
 have ho:=outT_len p s x H
 have hti:=stT_ins p s x H hI
 have hto:=step_ok p s x hpk hsk hg hxk.2.1 (stepH_on H).1
 rw[show engine_Step (p,s,(x.1,x.2.1,x.2.2),())=some (StT p s x,OutT p s x,0,()) from p_Step H w hI,show q38_Step (p,s,(x.1,x.2.1,x.2.2),())=some (StT p s x,OutT p s x,()) from r_Step H,decide_eq_true hxk]
 simp only[bnd_mk,Bool.not_true,Bool.not_false,cnd_t,cnd_f,decide_true]
 rw[r_sameD _ _ hti,r_sameO _ _ (by omega) (by omega) (by omega),r_stateD p _ hpk hti,decide_eq_true hto,p_stateD p _ w hti,if_pos ⟨hpk,hto⟩]
 simp only[decide_true,bnd_mk,cnd_t]
end Go.Proofs.YtmomjjgokeffnaaGreat.F
