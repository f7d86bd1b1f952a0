/- The step and the values, whole: the program's and the reference's. -/
import Derived.Test.YtmomjjgokeffnaaGreatP38VEngineSteps
set_option linter.unusedVariables false
set_option linter.unusedSectionVars false
set_option linter.unusedSimpArgs false
namespace Go.Proofs.YtmomjjgokeffnaaGreat.F
open Go.VX
open Classical
abbrev OutD:=Int×Int×List Int×List Bool×List EvD×Int×Unit
abbrev zSt:StateD:=(0,0,0,(false,0,0,()),((false,0,0,()),0,0,()),[],[],(0,[],()),())
abbrev zOut:OutD:=(0,0,[],[],[],0,())
noncomputable def OutT(p:PlanD) (s:StateD) (x:InD):OutD:=(s.1,((phN p.2.2.2.2.2.1 s.1:Nat):Int),ValS p s.2.2.2.2.1 s.1 (phN p.2.2.2.2.2.1 s.1),nth [] p.2.2.2.2.2.2.1 (phN p.2.2.2.2.2.1 s.1),EvT p s x,(StT p s x).2.1,())
theorem p_goes(p:PlanD) (s:StateD) (w:WfP p) (h:InS s):engine_goes (p,s,())=some (if PlanOkD p/\StateOkD p s then(if s.2.1=0 then 0 else 10) else 1):=by
 unfold engine_goes
 dsimp only
 rw[p_stateD p s w h,bnd_mk]
 by_cases k:PlanOkD p/\StateOkD p s
 ·rw[if_pos k,if_pos k,decide_eq_true rfl,Bool.not_true,cnd_f]
  by_cases g:s.2.1=0
  ·rw[if_pos g,decide_eq_true g];rfl
  ·rw[if_neg g,decide_eq_false g];rfl
 ·rw[if_neg k,if_neg k];rfl
theorem p_vals(p:PlanD) (s:StateD) (w:WfP p) (h:InS s):engine_Values (p,s,())=some (if PlanOkD p/\StateOkD p s then(if s.2.1=0 then(ValS p s.2.2.2.2.1 s.1 (phN p.2.2.2.2.2.1 s.1),0,()) else([],10,())) else([],1,())):=by
 unfold engine_Values
 dsimp only
 rw[p_goes p s w h,bnd_mk]
 by_cases k:PlanOkD p/\StateOkD p s
 ·rw[if_pos k,if_pos k]
  by_cases g:s.2.1=0
  ·have hr:0<=s.1/\s.1<p.1:=by
    rcases k.2.1 with q | q
    ·exact⟨q.2.1,q.2.2.1⟩
    ·rcases q.2 with q | q | q<;>(have:=q.1;rw[g] at this;exact absurd this (by decide))
   have hc:=scOk_of k.1 k.2
   rw[if_pos g,if_pos g,decide_eq_true rfl,Bool.not_true,cnd_f,p_phase p k.1 s.1 hr.1 hr.2,bnd_mk,p_values p s w k.1 hc.1 hc.2 hr.1 hr.2 _ rfl]
   rfl
  ·rw[if_neg g,if_neg g];rfl
 ·rw[if_neg k,if_neg k];rfl
theorem p_Step_no(p:PlanD) (s:StateD) (x:InD) (w:WfP p) (h:InS s) (hx:x.1.length<=1000) (hn:¬ (PlanOkD p/\StateOkD p s/\s.2.1=0/\InOk p x)):engine_Step (p,s,x,())=some (zSt,zOut,(if PlanOkD p/\InOk p x then(if StateOkD p s then 10 else 1) else 1),()):=by
 unfold engine_Step
 dsimp only
 rw[p_rcheck p x w hx,bnd_mk]
 by_cases k:PlanOkD p/\InOk p x
 ·rw[if_pos k,if_pos k,decide_eq_true rfl,Bool.not_true,cnd_f,p_goes p s w h,bnd_mk]
  by_cases g:StateOkD p s
  ·rw[if_pos ⟨k.1,g⟩,if_pos g,if_neg (fun z=>hn ⟨k.1,g,z,k.2⟩)];rfl
  ·rw[if_neg (fun z=>g z.2),if_neg g];rfl
 ·rw[if_neg k,if_neg k];rfl
theorem dec_andn(A:Prop) (b:Bool) {i:Decidable (A/\b=false)} {j:Decidable A}:@decide (A/\b=false) i=(@decide A j&&!b):=by cases b<;>simp
section
variable {p:PlanD} {s:StateD} {x:InD} (H:StepH p s x)
include H
theorem p_Step(w:WfP p) (h:InS s):engine_Step (p,s,x,())=some (StT p s x,OutT p s x,0,()):=by
 have hr:=stepH_range H
 have hl:=stepH_len H
 have hc:=scOk_of H.hp H.hs
 have hph:=planD_phase H.hp hr.1 hr.2.1
 have hf:=planD_frozen H.hp
 have hsp:=planD_spans H.hp
 have hg:=planD_groups H.hp
 have hv:=hf.2 (phN p.2.2.2.2.2.1 s.1) (by omega)
 unfold engine_Step
 dsimp only
 rw[p_rcheck p x w (by omega),if_pos ⟨H.hp,H.hx⟩,bnd_mk,decide_eq_true rfl,Bool.not_true,cnd_f,p_goes p s w h,if_pos ⟨H.hp,H.hs⟩,if_pos H.hg,bnd_mk,decide_eq_true rfl,Bool.not_true,cnd_f,p_phase p H.hp s.1 hr.1 hr.2.1,bnd_mk,p_values p s w H.hp hc.1 hc.2 hr.1 hr.2.1 _ rfl,bnd_mk,ati_d [] (by omega:phN p.2.2.2.2.2.1 s.1<p.2.2.2.2.2.2.1.length),bnd_mk,show slices_Clone_bool_bool (nth [] p.2.2.2.2.2.2.1 (phN p.2.2.2.2.2.1 s.1),())=some (nth [] p.2.2.2.2.2.2.1 (phN p.2.2.2.2.2.1 s.1)) from clone_ok (nth [] p.2.2.2.2.2.2.1 (phN p.2.2.2.2.2.1 s.1)) _ (by omega),bnd_mk,p_run H _ rfl,bnd_mk]
 dsimp only
 rw[wr_id (x:=s.1+1) (by omega) (by omega)]
 unfold OutT
 have he:(StT p s x).1=s.1+1:=by unfold StT;split<;>rfl
 rw[← he]
theorem r_Look(em:List Int) (sm:SumD) (hk:LkN p s) :
  q38_Look (p,(s.1,s.2.1,s.2.2.1,s.2.2.2.1,s.2.2.2.2.1,s.2.2.2.2.2.1,em,sm,()),x,())=some ((s.1,if OutN p s x then 2 else s.2.1,if OutN p s x then s.1 else s.2.2.1,stopN p s x,cutN p s x,keptN p s x,em,sm,()),evM p s x++(evK p s x++(evD p s x++(evC p s x++evS p s x))),()):=by
 have hl:=stepH_len H
 have ho:=stepH_on H
 have hx1:=H.hx.1
 have hM:evG (missN p x) s.1 6 x.1.length=evM p s x:=by unfold evM;rw[if_pos hk]
 have hml:=evX_len H
 have hkl:(evK p s x).length<=1:=len_if1 _ _
 have hdl:(evD p s x).length<=1:=len_if1 _ _
 have hcl:(evC p s x).length<=1:=len_if1 _ _
 unfold q38_Look
 dsimp only
 rw[grow_loop _ (fun k=>(evG (missN p x) s.1 6 k,(k:Int),())) x.1.length (evG (missN p x) s.1 6 x.1.length,()) _ ?_ ?_ ?_]
 rotate_left
 ·rfl
 ·intro k hkl
  have hgl:=evG_len (missN p x) s.1 6 k
  dsimp only
  rw[decide_eq_true (by omega:(k:Int)<p.2.2.1),cnd_t,app_ok (by rw[List.length_singleton];omega),wr_succ hkl (by omega)]
  simp only[evG]
  have hq:∀ {β:Type} (K:Bool->Option β),bnd (cnd (!decide (p.2.2.2.2.2.2.2.2.2.2.2.2.2.2.1=(k:Int))) (some (decide (p.2.2.2.2.2.2.2.2.2.2.2.2.2.1=(k:Int)))) (some true)) (fun j3=>bnd (cnd (!j3) (some (decide (p.2.2.2.2.2.2.2.2.2.2.2.2.1=(k:Int)))) (some true)) fun j4=>bnd (cnd j4 (bnd (ati x.1 (k:Int)) fun v5=>some (!v5.1)) (some false)) K)=K (decide (missN p x k)):=by
   intro β K
   rw[ati_d zRd hkl,show decide (missN p x k)=(decide (p.2.2.2.2.2.2.2.2.2.2.2.2.2.2.1=(k:Int)\/p.2.2.2.2.2.2.2.2.2.2.2.2.2.1=(k:Int)\/p.2.2.2.2.2.2.2.2.2.2.2.2.1=(k:Int))&&!(nth zRd x.1 k).1) from dec_andn _ _]
   simp only[bnd_mk]
   generalize (nth zRd x.1 k).1=b
   by_cases h3:p.2.2.2.2.2.2.2.2.2.2.2.2.2.2.1=(k:Int)
   ·rw[decide_eq_true h3,decide_eq_true (show p.2.2.2.2.2.2.2.2.2.2.2.2.2.2.1=(k:Int)\/p.2.2.2.2.2.2.2.2.2.2.2.2.2.1=(k:Int)\/p.2.2.2.2.2.2.2.2.2.2.2.2.1=(k:Int) from .inl h3)]
    cases b<;>rfl
   ·by_cases h2:p.2.2.2.2.2.2.2.2.2.2.2.2.2.1=(k:Int)
    ·rw[decide_eq_false h3,decide_eq_true h2,decide_eq_true (show p.2.2.2.2.2.2.2.2.2.2.2.2.2.2.1=(k:Int)\/p.2.2.2.2.2.2.2.2.2.2.2.2.2.1=(k:Int)\/p.2.2.2.2.2.2.2.2.2.2.2.2.1=(k:Int) from .inr (.inl h2))]
     cases b<;>rfl
    ·by_cases h1:p.2.2.2.2.2.2.2.2.2.2.2.2.1=(k:Int)
     ·rw[decide_eq_false h3,decide_eq_false h2,decide_eq_true h1,decide_eq_true (show p.2.2.2.2.2.2.2.2.2.2.2.2.2.2.1=(k:Int)\/p.2.2.2.2.2.2.2.2.2.2.2.2.2.1=(k:Int)\/p.2.2.2.2.2.2.2.2.2.2.2.2.1=(k:Int) from .inr (.inr h1))]
      cases b<;>rfl
     ·rw[decide_eq_false h3,decide_eq_false h2,decide_eq_false h1,decide_eq_false (show ¬ (p.2.2.2.2.2.2.2.2.2.2.2.2.2.2.1=(k:Int)\/p.2.2.2.2.2.2.2.2.2.2.2.2.2.1=(k:Int)\/p.2.2.2.2.2.2.2.2.2.2.2.2.1=(k:Int)) from fun z=>z.elim h3 fun z=>z.elim h2 h1)]
      cases b<;>rfl
  refine(hq _).trans ?_
  by_cases hm:missN p x k
  ·rw[decide_eq_true hm,if_pos hm];rfl
  ·rw[decide_eq_false hm,if_neg hm,List.append_nil];rfl
 ·dsimp only
  rw[decide_eq_false (by omega),cnd_f]
  rfl
 rw[hM,bnd_mk]
 dsimp only
 rw[r_seen x p.2.2.2.2.2.2.2.2.2.2.2.2.2.2.1 ho.2.2.2.2.2,bnd_mk,r_seen x p.2.2.2.2.2.2.2.2.2.2.2.2.2.1 ho.2.2.2.1,r_seen x p.2.2.2.2.2.2.2.2.2.2.2.2.1 ho.2.1]
 have s3:∀ {β:Type} (K:List EvD×StateD×Unit->Option β),bnd (cnd (decide (Seen x.1 p.2.2.2.2.2.2.2.2.2.2.2.2.2.2.1)) (bnd (ati x.1 p.2.2.2.2.2.2.2.2.2.2.2.2.2.2.1) fun v11=>bnd (q32_Put (s.2.2.2.2.2.1,(s.1,v11.2.1,()),p.2.2.2.2.2.2.2.2.2.2.1.2.2.2.1,p.2.2.2.2.2.2.2.2.2.2.1.2.2.1,())) fun r12=>bnd (cnd (!(!r12.2.2.1)) (some (!decide (r12.2.1.1=s.1))) (some true)) fun j13=>bnd (cnd j13 (bnd (app 5864062014805 (evM p s x) [(s.1,7,s.1,())]) fun v15=>some (v15,())) (some (evM p s x,()))) fun j14=>bnd (cnd r12.2.2.1 (some (!decide (r12.2.1.1=s.1))) (some false)) fun j16=>bnd (cnd j16 (bnd (app 5864062014805 j14.1 [(s.1,8,r12.2.1.1,())]) fun v18=>some (v18,())) (some (j14.1,()))) fun j17=>some (j17.1,(s.1,s.2.1,s.2.2.1,s.2.2.2.1,s.2.2.2.2.1,r12.1,em,sm,()),())) (some (evM p s x,(s.1,s.2.1,s.2.2.1,s.2.2.2.1,s.2.2.2.2.1,s.2.2.2.2.2.1,em,sm,()),()))) K=K (evM p s x++(evK p s x++evD p s x),(s.1,s.2.1,s.2.2.1,s.2.2.2.1,s.2.2.2.2.1,keptN p s x,em,sm,()),()):=by
  intro β K
  unfold keptN evK evD
  by_cases h:Seen x.1 p.2.2.2.2.2.2.2.2.2.2.2.2.2.2.1
  ·have hK:KeN p s x:=⟨hk,h⟩
   obtain⟨v,e1,e2⟩:=seen_at x p.2.2.2.2.2.2.2.2.2.2.2.2.2.2.1 ho.2.2.2.2.2 h
   rw[decide_eq_true h,cnd_t,e1,bnd_mk,e2,r_bput _ _ _ _ (by omega),bnd_mk,show PutS p.2.2.2.2.2.2.2.2.2.2.1.2.2.1 p.2.2.2.2.2.2.2.2.2.2.1.2.2.2.1 s.2.2.2.2.2.1 (s.1,valR x.1 p.2.2.2.2.2.2.2.2.2.2.2.2.2.2.1,())=putN p s x from rfl,if_pos hK,if_and2 hK,if_and2 hK]
   generalize putN p s x=r
   obtain⟨l,⟨g,gv,_⟩,is,_⟩:=r
   dsimp only
   rw[app_ok (by rw[List.length_singleton];omega)]
   cases is with
   | false =>
    rw[if_pos (fun k:false=true/\g=s.1=>Bool.noConfusion k.1),if_neg (fun k:false=true/\g≠s.1=>Bool.noConfusion k.1),List.append_nil]
    rfl
   | true =>
    by_cases h:g=s.1
    ·rw[if_neg (fun k:¬ (true=true/\g=s.1)=>k ⟨rfl,h⟩),if_neg (fun k:true=true/\g≠s.1=>k.2 h),decide_eq_true h,List.append_nil,List.append_nil]
     rfl
    ·rw[if_pos (fun k:true=true/\g=s.1=>h k.2),if_pos (show true=true/\g≠s.1 from⟨rfl,h⟩),decide_eq_false h,← List.append_assoc]
     simp only[Bool.not_true,Bool.not_false,cnd_t,bnd_mk]
     rw[app_ok (by rw[List.length_append,List.length_singleton,List.length_singleton];omega)]
     rfl
  ·have hK:¬ KeN p s x:=fun k=>h k.2
   rw[decide_eq_false h,cnd_f,if_neg hK,if_neg (fun k=>hK k.1),if_neg (fun k=>hK k.1),List.append_nil,List.append_nil]
   rfl
 refine(s3 _).trans ?_
 dsimp only
 rw[bnd_mk]
 obtain⟨eva,heva⟩:∃ e,e=evM p s x++(evK p s x++evD p s x):=⟨_,rfl⟩
 have hla:eva.length<=120:=by rw[heva,List.length_append,List.length_append];omega
 rw[← heva]
 have s2:∀ {β:Type} (K:List EvD×StateD×Unit->Option β),bnd (cnd (decide (Seen x.1 p.2.2.2.2.2.2.2.2.2.2.2.2.2.1)) (bnd (ati x.1 p.2.2.2.2.2.2.2.2.2.2.2.2.2.1) fun v21=>bnd (q31_Take (s.2.2.2.2.1,v21.2.1,p.2.2.2.2.2.2.2.2.2.1,())) fun r22=>bnd (cnd r22.2.1 (bnd (app 5864062014805 eva [(s.1,9,0,())]) fun v24=>some (v24,())) (some (eva,()))) fun j23=>some (j23.1,(s.1,s.2.1,s.2.2.1,s.2.2.2.1,r22.1,keptN p s x,em,sm,()),())) (some (eva,(s.1,s.2.1,s.2.2.1,s.2.2.2.1,s.2.2.2.2.1,keptN p s x,em,sm,()),()))) K=K (eva++evC p s x,(s.1,s.2.1,s.2.2.1,s.2.2.2.1,cutN p s x,keptN p s x,em,sm,()),()):=by
  intro β K
  unfold cutN evC
  by_cases h:Seen x.1 p.2.2.2.2.2.2.2.2.2.2.2.2.2.1
  ·have hC:CuN p s x:=⟨hk,h⟩
   obtain⟨c1,c2,c3,c4⟩:=stepH_cut H h
   obtain⟨v,e1,e2⟩:=seen_at x p.2.2.2.2.2.2.2.2.2.2.2.2.2.1 ho.2.2.2.1 h
   rw[decide_eq_true h,cnd_t,e1,bnd_mk,e2,r_ptake s.2.2.2.2.1 _ p.2.2.2.2.2.2.2.2.2.1 (valR_in H.hi.xr ho.2.2.2.1 h) H.hi.cb c1 c3 c4 c2,bnd_mk,show TakeC s.2.2.2.2.1 (valR x.1 p.2.2.2.2.2.2.2.2.2.2.2.2.2.1) p.2.2.2.2.2.2.2.2.2.1=cutR p s x from rfl,if_pos hC,if_and2 hC]
   generalize cutR p s x=r
   obtain⟨c,is⟩:=r
   dsimp only
   rw[app_ok (by rw[List.length_singleton];omega)]
   cases is with
   | true=>rw[if_pos rfl];rfl
   | false=>rw[if_neg Bool.false_ne_true,List.append_nil];rfl
  ·have hC:¬ CuN p s x:=fun k=>h k.2
   rw[decide_eq_false h,cnd_f,if_neg hC,if_neg (fun k=>hC k.1),List.append_nil]
   rfl
 refine(s2 _).trans ?_
 dsimp only
 rw[bnd_mk]
 obtain⟨evb,hevb⟩:∃ e,e=eva++evC p s x:=⟨_,rfl⟩
 have hlb:evb.length<=130:=by rw[hevb,List.length_append];omega
 rw[← hevb]
 have s1:∀ {β:Type} (K:List EvD×StateD×Unit->Option β),bnd (cnd (decide (Seen x.1 p.2.2.2.2.2.2.2.2.2.2.2.2.1)) (bnd (ati x.1 p.2.2.2.2.2.2.2.2.2.2.2.2.1) fun v27=>bnd (q30_Take (s.2.2.2.1,v27.2.1,(p.2.2.2.2.2.2.2.2.1.2.2.1,p.2.2.2.2.2.2.2.2.1.2.2.2.2.1,p.2.2.2.2.2.2.2.2.1.2.2.2.2.2.1,()),())) fun r28=>bnd (cnd (decide (r28.2.2.1>=p.2.2.2.2.2.2.2.2.1.2.2.2.1)) (bnd (app 5864062014805 evb [(s.1,10,0,())]) fun v30=>some (v30,((s.1,2,s.1,r28,cutN p s x,keptN p s x,em,sm,()):StateD),())) (some (evb,(s.1,s.2.1,s.2.2.1,r28,cutN p s x,keptN p s x,em,sm,()),()))) fun(j29:List EvD×StateD×Unit)=>some (j29.1,j29.2.1,())) (some (evb,(s.1,s.2.1,s.2.2.1,s.2.2.2.1,cutN p s x,keptN p s x,em,sm,()),()))) K=K (evb++evS p s x,(s.1,if OutN p s x then 2 else s.2.1,if OutN p s x then s.1 else s.2.2.1,stopN p s x,cutN p s x,keptN p s x,em,sm,()),()):=by
  intro β K
  unfold evS OutN stopN
  by_cases h:Seen x.1 p.2.2.2.2.2.2.2.2.2.2.2.2.1
  ·have hS:StN p s x:=⟨hk,h⟩
   obtain⟨c1,c2⟩:=stepH_stop H h
   obtain⟨v,e1,e2⟩:=seen_at x p.2.2.2.2.2.2.2.2.2.2.2.2.1 ho.2.1 h
   rw[decide_eq_true h,cnd_t,e1,bnd_mk,e2,r_etake s.2.2.2.1 _ (p.2.2.2.2.2.2.2.2.1.2.2.1,p.2.2.2.2.2.2.2.2.1.2.2.2.2.1,p.2.2.2.2.2.2.2.2.1.2.2.2.2.2.1,()) (valR_in H.hi.xr ho.2.1 h) H.hi.sb c1,bnd_mk,if_pos hS,if_and2 hS,if_and2 hS,if_and2 hS,app_ok (by rw[List.length_singleton];omega)]
   generalize TakeW s.2.2.2.1 (valR x.1 p.2.2.2.2.2.2.2.2.2.2.2.2.1) (p.2.2.2.2.2.2.2.2.1.2.2.1,p.2.2.2.2.2.2.2.2.1.2.2.2.2.1,p.2.2.2.2.2.2.2.2.1.2.2.2.2.2.1,())=r
   by_cases g:p.2.2.2.2.2.2.2.2.1.2.2.2.1<=r.2.2.1
   ·rw[decide_eq_true (show r.2.2.1>=p.2.2.2.2.2.2.2.2.1.2.2.2.1 from g),if_pos g,if_pos g,if_pos g];rfl
   ·rw[decide_eq_false (show ¬ r.2.2.1>=p.2.2.2.2.2.2.2.2.1.2.2.2.1 from g),if_neg g,if_neg g,if_neg g,List.append_nil];rfl
  ·have hS:¬ StN p s x:=fun k=>h k.2
   rw[decide_eq_false h,cnd_f,if_neg hS,if_neg (fun k=>hS k.1),if_neg (fun k=>hS k.1),if_neg (fun k=>hS k.1),List.append_nil]
   rfl
 refine(s1 _).trans ?_
 rw[hevb,heva]
 simp only[List.append_assoc]
theorem r_Step:q38_Step (p,s,x,())=some (StT p s x,OutT p s x,()):=by
 have hr:=stepH_range H
 have hl:=stepH_len H
 have hc:=scOk_of H.hp H.hs
 have hph:=planD_phase H.hp hr.1 hr.2.1
 have hf:=planD_frozen H.hp
 have ha:=planD_avg H.hp
 have hev:=planD_eval H.hp
 have hbl:=evB_len p H.hp s.1 (phN p.2.2.2.2.2.1 s.1)
 have hml:=evX_len H
 have hkl:(evK p s x).length<=1:=len_if1 _ _
 have hdl:(evD p s x).length<=1:=len_if1 _ _
 have hcl:(evC p s x).length<=1:=len_if1 _ _
 have hsl:(evS p s x).length<=1:=len_if1 _ _
 have hwl:(evW p s).length<=1:=len_if1 _ _
 obtain⟨c0,c1,c2,c3⟩:=stepH_sums H
 obtain⟨r,e,f1,f2⟩:=r_sadd s.2.2.2.2.2.2.2.1 x.2.1 c0 c1 c3 (by omega) H.hi.sm H.hi.xw
 unfold q38_Step
 dsimp only
 rw[r_phase p H.hp s.1 hr.1 hr.2.1,bnd_mk,r_values p s.2.2.2.2.1 H.hp hc.1 s.1 hr.1 hr.2.1,bnd_mk,ati_d [] (by omega:phN p.2.2.2.2.2.1 s.1<p.2.2.2.2.2.2.1.length),bnd_mk,r_begins p H.hp s.1 hr.1 hr.2.1,bnd_mk,r_swa p p.2.2.2.2.2.2.2.2.2.2.2.2.2.2.2.1 p.2.2.2.2.2.2.2.2.2.2.2.2.2.2.2.2.1 s.1 rfl rfl ha.1 (by omega) hr.1 (by omega) (by omega),bnd_mk,wr_id (x:=s.1+1) (by omega) (by omega)]
 unfold OutT EvT
 generalize phN p.2.2.2.2.2.1 s.1=n at *
 obtain⟨vs,hvs⟩:∃ l,l=ValS p s.2.2.2.2.1 s.1 n:=⟨_,rfl⟩
 rw[← hvs]
 by_cases hF:FailN p s x
 ·have hSt:StT p s x=(s.1+1,3,s.1,s.2.2.2.1,s.2.2.2.2.1,s.2.2.2.2.2.1,s.2.2.2.2.2.2.1,s.2.2.2.2.2.2.2.1,()):=by unfold StT;rw[if_pos hF]
  rw[hSt,decide_eq_true (show SwaP p.2.2.2.2.2.2.2.2.2.2.2.2.2.2.2.1 p.2.2.2.2.2.2.2.2.2.2.2.2.2.2.2.2.1 s.1 from hF.1),cnd_t,e,bnd_mk,decide_eq_false (f1 hF.2),Bool.not_false,cnd_t,app_ok (by rw[List.length_singleton];omega),if_pos hF]
  rfl
 have hSt:StT p s x=(s.1+1,if OutN p s x then 2 else if s.1+1=p.1 then 1 else 0,if OutN p s x then s.1 else if s.1+1=p.1 then s.1 else s.2.2.1,stopN p s x,cutN p s x,keptN p s x,emaN p s x,swaN p s x,()):=by unfold StT;rw[if_neg hF]
 rw[hSt,if_neg hF]
 have hW:∀ (K:StateD×OutD×Unit->Option (StateD×OutD×Unit)),bndS (cnd (decide (SwaP p.2.2.2.2.2.2.2.2.2.2.2.2.2.2.2.1 p.2.2.2.2.2.2.2.2.2.2.2.2.2.2.2.2.1 s.1)) (bnd (q34_Add (s.2.2.2.2.2.2.2.1,x.2.1,())) fun r7=>cnd (!decide (r7.2.1=0)) (bnd (app 5864062014805 (evB p s.1 n) [(s.1,5,0,())]) fun v8=>inrE (some ((s.1+1,3,s.1,s.2.2.2.1,s.2.2.2.2.1,s.2.2.2.2.2.1,s.2.2.2.2.2.2.1,s.2.2.2.2.2.2.2.1,()),(s.1,(n:Int),vs,nth [] p.2.2.2.2.2.2.1 n,v8,3,()),()))) (bnd (app 5864062014805 (evB p s.1 n) [(s.1,4,s.2.2.2.2.2.2.2.1.1,())]) fun v9=>inlE ((s.1,s.2.1,s.2.2.1,s.2.2.2.1,s.2.2.2.2.1,s.2.2.2.2.2.1,s.2.2.2.2.2.2.1,r7.1,()),(s.1,(n:Int),vs,nth [] p.2.2.2.2.2.2.1 n,v9,0,()),()))) (inlE (s,(s.1,(n:Int),vs,nth [] p.2.2.2.2.2.2.1 n,evB p s.1 n,0,()),()))) K=K ((s.1,s.2.1,s.2.2.1,s.2.2.2.1,s.2.2.2.2.1,s.2.2.2.2.2.1,s.2.2.2.2.2.2.1,swaN p s x,()),(s.1,(n:Int),vs,nth [] p.2.2.2.2.2.2.1 n,evB p s.1 n++evW p s,0,()),()):=by
  intro K
  unfold swaN evW
  by_cases h:SwN p s
  ·have hr:=f2 (fun k=>hF ⟨h,k⟩)
   subst hr
   rw[decide_eq_true (show SwaP p.2.2.2.2.2.2.2.2.2.2.2.2.2.2.2.1 p.2.2.2.2.2.2.2.2.2.2.2.2.2.2.2.2.1 s.1 from h),cnd_t,e,bnd_mk,decide_eq_true rfl,Bool.not_true,cnd_f,app_ok (by rw[List.length_singleton];omega),if_pos h,if_pos h]
   rfl
  ·rw[decide_eq_false (show ¬ SwaP p.2.2.2.2.2.2.2.2.2.2.2.2.2.2.2.1 p.2.2.2.2.2.2.2.2.2.2.2.2.2.2.2.2.1 s.1 from h),cnd_f,if_neg h,if_neg h,List.append_nil]
   rfl
 refine(hW _).trans ?_
 dsimp only
 have hE:∀ (K:StateD×Unit->Option (StateD×OutD×Unit)),bnd (cnd p.2.2.2.2.2.2.2.2.2.2.2.1.1 (bnd (q33_Take (s.2.2.2.2.2.2.1,x.2.1,p.2.2.2.2.2.2.2.2.2.2.2.1.2.1,())) fun r11=>some ((s.1,s.2.1,s.2.2.1,s.2.2.2.1,s.2.2.2.2.1,s.2.2.2.2.2.1,r11,swaN p s x,()),())) (some ((s.1,s.2.1,s.2.2.1,s.2.2.2.1,s.2.2.2.2.1,s.2.2.2.2.2.1,s.2.2.2.2.2.2.1,swaN p s x,()),()))) K=K ((s.1,s.2.1,s.2.2.1,s.2.2.2.1,s.2.2.2.2.1,s.2.2.2.2.2.1,emaN p s x,swaN p s x,()),()):=by
  intro K
  unfold emaN
  by_cases h:p.2.2.2.2.2.2.2.2.2.2.2.1.1=true
  ·have hd:=planD_ema H.hp h
   rw[h,cnd_t,r_ema s.2.2.2.2.2.2.1 x.2.1 p.2.2.2.2.2.2.2.2.2.2.2.1.2.1 hd.1 hd.2 (by omega) (stepH_ema H) H.hi.em H.hi.xw,if_pos rfl]
   rfl
  ·rw[show p.2.2.2.2.2.2.2.2.2.2.2.1.1=false by cases hh:p.2.2.2.2.2.2.2.2.2.2.2.1.1 with | false=>rfl | true=>exact(h hh).elim,cnd_f,if_neg Bool.false_ne_true]
   rfl
 refine(hE _).trans ?_
 rw[r_looked p p.2.2.2.2.1 s.1 rfl hr.1 (by omega),bnd_mk]
 dsimp only
 have hL:∀ (K:StateD×OutD×Unit->Option (StateD×OutD×Unit)),bnd (cnd (decide (LookedP p.2.2.2.2.1 s.1)) (bnd (q38_Look (p,(s.1,s.2.1,s.2.2.1,s.2.2.2.1,s.2.2.2.2.1,s.2.2.2.2.2.1,emaN p s x,swaN p s x,()),x,())) fun r14=>bnd (app 5864062014805 (evB p s.1 n++evW p s) r14.2.1) fun v15=>some (r14.1,(s.1,(n:Int),vs,nth [] p.2.2.2.2.2.2.1 n,v15,0,()),())) (some ((s.1,s.2.1,s.2.2.1,s.2.2.2.1,s.2.2.2.2.1,s.2.2.2.2.2.1,emaN p s x,swaN p s x,()),(s.1,(n:Int),vs,nth [] p.2.2.2.2.2.2.1 n,evB p s.1 n++evW p s,0,()),()))) K=K ((s.1,if OutN p s x then 2 else s.2.1,if OutN p s x then s.1 else s.2.2.1,stopN p s x,cutN p s x,keptN p s x,emaN p s x,swaN p s x,()),(s.1,(n:Int),vs,nth [] p.2.2.2.2.2.2.1 n,evB p s.1 n++evW p s++(evM p s x++(evK p s x++(evD p s x++(evC p s x++evS p s x)))),0,()),()):=by
  intro K
  by_cases k:LkN p s
  ·rw[decide_eq_true (show LookedP p.2.2.2.2.1 s.1 from k),cnd_t,r_Look H _ _ k,bnd_mk]
   dsimp only
   rw[app_ok (by simp only[List.length_append];omega),bnd_mk,bnd_mk]
  ·have k1:¬ KeN p s x:=fun h=>k h.1
   have k2:¬ CuN p s x:=fun h=>k h.1
   have k3:¬ StN p s x:=fun h=>k h.1
   have k4:¬ OutN p s x:=fun h=>k3 h.1
   unfold evM evK evD evC evS stopN cutN keptN
   rw[decide_eq_false (show ¬ LookedP p.2.2.2.2.1 s.1 from k),cnd_f,bnd_mk,if_neg k4,if_neg k4,if_neg k3,if_neg k2,if_neg k1,if_neg k,if_neg (fun h=>k1 h.1),if_neg (fun h=>k1 h.1),if_neg (fun h=>k2 h.1),if_neg k4]
   simp only[List.append_nil]
 refine(hL _).trans ?_
 dsimp only
 unfold evE
 rw[H.hg]
 by_cases k:s.1+1=p.1
 ·rw[decide_eq_true k,cnd_t,if_pos k,if_pos k,if_pos k,app_ok (by
   simp only[List.length_append,List.length_singleton]
   omega),bnd_mk]
  by_cases ho:OutN p s x
  ·rw[if_pos ho,if_pos ho,if_pos ho,if_pos ho]
   simp only[List.append_assoc]
   rfl
  ·rw[if_neg ho,if_neg ho,if_neg ho,if_neg ho]
   simp only[List.append_assoc]
   rfl
 ·rw[decide_eq_false k,cnd_f,if_neg k,if_neg k,if_neg k,bnd_mk]
  simp only[List.append_assoc,List.append_nil]
end
theorem light38(p:PlanD) (s:StateD) (x:InD):∃ q,l38_light (p,s,x,())=some q/\(q=true->p.1<=3000/\x.1.length<=30/\x.2.1.length<=30/\s.2.2.2.2.2.1.length<=30/\s.2.2.2.2.2.2.1.length<=30/\s.2.2.2.2.2.2.2.1.2.1.length<=30):=by
 obtain⟨q1,e1⟩:=lightD p
 unfold l38_light
 dsimp only
 rw[e1,light37]
 cases q1 with
 | false=>exact⟨false,rfl,fun k=>Bool.noConfusion k⟩
 | true =>
 simp only[bnd_mk,cnd_t]
 by_cases h:s.2.2.2.2.2.1.length<=30/\s.2.2.2.2.2.2.1.length<=30/\s.2.2.2.2.2.2.2.1.2.1.length<=30
 ·rw[decide_eq_true h]
  simp only[bnd_mk,cnd_t,cnd_some_and]
  refine⟨_,rfl,fun k=>?_⟩
  simp only[Bool.and_eq_true,decide_eq_true_eq] at k
  omega
 ·rw[decide_eq_false h]
  exact⟨false,rfl,fun k=>Bool.noConfusion k⟩
end Go.Proofs.YtmomjjgokeffnaaGreat.F
