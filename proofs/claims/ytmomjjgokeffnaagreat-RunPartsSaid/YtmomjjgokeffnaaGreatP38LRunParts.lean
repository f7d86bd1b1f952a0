/- The step and the values, whole: the program's and the reference's. -/
import Derived.Test.YtmomjjgokeffnaaGreatP38VRunParts
set_option linter.unusedVariables false
set_option linter.unusedSectionVars false
set_option linter.unusedSimpArgs false
namespace Go.Proofs.YtmomjjgokeffnaaGreat.F
open Go.VX
open Classical
abbrev OutD:=Int×Int×List Int×List Bool×List EvD×Int×Unit
abbrev zSt:StateD:=(0,0,0,(false,0,0,()),((false,0,0,()),0,0,()),[],[],(0,[],()),())
abbrev zOut:OutD:=(0,0,[],[],[],0,())
noncomputable def OutT(p:PlanD) (s:StateD) (x:InD):OutD:=(s.1,((phN p.2.2.2.2.2.1 s.1:Nat):Int),ValS p s.2.2.2.2.1 s.1 (phN p.2.2.2.2.2.1 s.1),nth [] p.2.2.2.2.2.2.1 (phN p.2.2.2.2.2.1 s.1),EvT p s x,(StT p s x).2.1,())
theorem p_goes(p:PlanD) (s:StateD) (w:WfP p) (h:InS s):engine_goes (p,s,())=some (if PlanOkD p/\StateOkD p s then(if s.2.1=0 then 0 else 10) else 1):=by
 unfold engine_goes
 dsimp only
 rw[p_stateD p s w h,bnd_mk]
 by_cases k:PlanOkD p/\StateOkD p s
 ·rw[if_pos k,if_pos k,decide_eq_true rfl,Bool.not_true,cnd_f]
  by_cases g:s.2.1=0
  ·rw[if_pos g,decide_eq_true g];rfl
  ·rw[if_neg g,decide_eq_false g];rfl
 ·rw[if_neg k,if_neg k];rfl
theorem p_Step_no(p:PlanD) (s:StateD) (x:InD) (w:WfP p) (h:InS s) (hx:x.1.length<=1000) (hn:¬ (PlanOkD p/\StateOkD p s/\s.2.1=0/\InOk p x)):engine_Step (p,s,x,())=some (zSt,zOut,(if PlanOkD p/\InOk p x then(if StateOkD p s then 10 else 1) else 1),()):=by
 unfold engine_Step
 dsimp only
 rw[p_rcheck p x w hx,bnd_mk]
 by_cases k:PlanOkD p/\InOk p x
 ·rw[if_pos k,if_pos k,decide_eq_true rfl,Bool.not_true,cnd_f,p_goes p s w h,bnd_mk]
  by_cases g:StateOkD p s
  ·rw[if_pos ⟨k.1,g⟩,if_pos g,if_neg (fun z=>hn ⟨k.1,g,z,k.2⟩)];rfl
  ·rw[if_neg (fun z=>g z.2),if_neg g];rfl
 ·rw[if_neg k,if_neg k];rfl
section
variable {p:PlanD} {s:StateD} {x:InD} (H:StepH p s x)
include H
theorem p_Step(w:WfP p) (h:InS s):engine_Step (p,s,x,())=some (StT p s x,OutT p s x,0,()):=by
 have hr:=stepH_range H
 have hl:=stepH_len H
 have hc:=scOk_of H.hp H.hs
 have hph:=planD_phase H.hp hr.1 hr.2.1
 have hf:=planD_frozen H.hp
 have hsp:=planD_spans H.hp
 have hg:=planD_groups H.hp
 have hv:=hf.2 (phN p.2.2.2.2.2.1 s.1) (by omega)
 unfold engine_Step
 dsimp only
 rw[p_rcheck p x w (by omega),if_pos ⟨H.hp,H.hx⟩,bnd_mk,decide_eq_true rfl,Bool.not_true,cnd_f,p_goes p s w h,if_pos ⟨H.hp,H.hs⟩,if_pos H.hg,bnd_mk,decide_eq_true rfl,Bool.not_true,cnd_f,p_phase p H.hp s.1 hr.1 hr.2.1,bnd_mk,p_values p s w H.hp hc.1 hc.2 hr.1 hr.2.1 _ rfl,bnd_mk,ati_d [] (by omega:phN p.2.2.2.2.2.1 s.1<p.2.2.2.2.2.2.1.length),bnd_mk,show slices_Clone_bool_bool (nth [] p.2.2.2.2.2.2.1 (phN p.2.2.2.2.2.1 s.1),())=some (nth [] p.2.2.2.2.2.2.1 (phN p.2.2.2.2.2.1 s.1)) from clone_ok (nth [] p.2.2.2.2.2.2.1 (phN p.2.2.2.2.2.1 s.1)) _ (by omega),bnd_mk,p_run H _ rfl,bnd_mk]
 dsimp only
 rw[wr_id (x:=s.1+1) (by omega) (by omega)]
 unfold OutT
 have he:(StT p s x).1=s.1+1:=by unfold StT;split<;>rfl
 rw[← he]
end
end Go.Proofs.YtmomjjgokeffnaaGreat.F
