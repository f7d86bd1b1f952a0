/- The law EngineOrder, in plain Lean: what happens at any step stands in order, is of that step, and at the last one of all the run is over. -/
import Derived.Test.YtmomjjgokeffnaaGreatVx3
import Derived.Test.YtmomjjgokeffnaaGreatP38OEngineOrder
import Derived.Test.YtmomjjgokeffnaaGreatP38AEngineOrder
set_option linter.unusedVariables false
set_option linter.unusedSimpArgs false
namespace Go.Proofs.YtmomjjgokeffnaaGreat.F
open Go.VX
open Classical
abbrev zEv:EvD:=(0,0,0,())
theorem or_a(b c:Int):cmp_Or_int ([-1,b,c],())=some (-1):=congrArg (fun z=>bndS z fun _=>some 0) (loopP_done (r:=(.inr (-1):Unit ⊕ Int)) rfl)
theorem or_b(c:Int):cmp_Or_int ([0,-1,c],())=some (-1):=congrArg (fun z=>bndS z fun _=>some 0) ((loopP_step (s':=((1:Int),())) rfl).trans (loopP_done (r:=(.inr (-1):Unit ⊕ Int)) rfl))
theorem or_c:cmp_Or_int ([0,0,-1],())=some (-1):=congrArg (fun z=>bndS z fun _=>some 0) ((loopP_step (s':=((1:Int),())) rfl).trans ((loopP_step (s':=((2:Int),())) rfl).trans (loopP_done (r:=(.inr (-1):Unit ⊕ Int)) rfl)))
theorem p_cmpE(a b:EvD) (h:LtE a b):events_compare (a,b,())=some (-1):=by
 unfold events_compare
 dsimp only
 rw[cmp3_int,bnd_mk,cmp3_int,bnd_mk,cmp3_int,bnd_mk]
 rcases h with h | ⟨h1,h | ⟨h2,h⟩⟩
 ·rw[if_pos h,or_a];rfl
 ·rw[if_neg (by omega:¬ a.1<b.1),if_neg (by omega:¬ b.1<a.1),if_pos h,or_b];rfl
 ·rw[if_neg (by omega:¬ a.1<b.1),if_neg (by omega:¬ b.1<a.1),if_neg (by omega:¬ a.2.1<b.2.1),if_neg (by omega:¬ b.2.1<a.2.1),if_pos h,or_c];rfl
theorem p_rise(l:List EvD) (hl:l.length<=1000) (h:List.Pairwise LtE l):events_Rise (l,())=some true:=by
 unfold events_Rise
 dsimp only
 rw[grow_loop _ (fun k=>((k:Int),())) l.length (Sum.inl ():Unit ⊕ Bool) _ ?_ ?_ ?_]
 ·rfl
 ·rfl
 ·intro k hk
  dsimp only
  rw[lt_true hk,cnd_t,wr_succ hk (by omega)]
  by_cases h0:0<k
  ·have hlt:=List.pairwise_iff_getElem.1 h (k-1) k (by omega) hk (by omega)
   rw[decide_eq_true (by omega:(k:Int)>0),cnd_t,ati_pred zEv h0 hk (by omega),bnd_mk,ati_d zEv hk,bnd_mk,p_cmpE _ _ (by
    simpa [nth,List.getD,hk,(show k-1<l.length by omega)] using hlt)]
   rfl
  ·rw[decide_eq_false (by omega:¬ (k:Int)>0)]
   rfl
 ·dsimp only
  rw[lt_false]
  rfl
theorem p_evof(l:List EvD) (k:Int) (hl:l.length<=1000):∃ m,events_Of (l,k,())=some m/\m.length=cntK k l:=by
 refine⟨(l.filter fun e=>decide (e.2.1=k)).map fun e=>e.2.2.1,?_,by rw[List.length_map];rfl⟩
 unfold events_Of
 dsimp only
 rw[grow_loop _ (fun m=>(((l.take m).filter fun e=>decide (e.2.1=k)).map fun e=>e.2.2.1,(m:Int),())) l.length ((l.filter fun e=>decide (e.2.1=k)).map fun e=>e.2.2.1,()) _ ?_ ?_ ?_]
 ·rfl
 ·simp
 ·intro m hm
  have hle:=List.length_filter_le (fun e:EvD=>decide (e.2.1=k)) (l.take m)
  rw[List.length_take] at hle
  dsimp only
  rw[lt_true hm,cnd_t,ati_d zEv hm,bnd_mk,app_ok (by rw[List.length_map,List.length_singleton];omega),wr_succ hm (by omega),List.take_succ_eq_append_getElem hm,List.filter_append,List.map_append,show l[m]=nth zEv l m by simp [nth,List.getD,hm]]
  by_cases h:(nth zEv l m).2.1=k
  ·rw[decide_eq_true h,show [nth zEv l m].filter (fun e=>decide (e.2.1=k))=[nth zEv l m] by simp [h]]
   rfl
  ·rw[decide_eq_false h,show [nth zEv l m].filter (fun e=>decide (e.2.1=k))=[] by simp [h],List.map_nil,List.append_nil]
   rfl
 ·dsimp only
  rw[lt_false,cnd_f,List.take_length]
  rfl
theorem pure_EngineOrder(x:Ty.D (.tu T34 (.tu T44 (.tu T47 .unit)))) (h:Ty.wf (.tu T34 (.tu T44 (.tu T47 .unit))) x):l38_EngineOrder x=some true:=by
 obtain⟨p,s,x,_⟩:=x
 obtain⟨hp,hs,hx,_⟩:=h
 change PlanD at p
 change StateD at s
 change InD at x
 have w:WfP p:=by
  obtain⟨a0,a1,a2,a3,a4,sp,fz,tr,st,cu,ke,em,o1,o2,o3,sf,se,_⟩:=p
  obtain⟨_,_,_,_,_,hsp,hfz,htr,_⟩:=hp
  exact⟨hsp.1,hfz.1,htr.1,fun t ht=>(htr.2 t ht).2.2.1.1⟩
 have hI:InS s:=⟨hs.1,hs.2.2.2.2.2.1.1,hs.2.2.2.2.2.2.1.1,hs.2.2.2.2.2.2.2.1.2.1.1,fun x hx=>(hs.2.2.2.2.2.1.2 x hx).2.1⟩
 have hE:InE s x:=⟨hs.2.2.2.1.2.1,hs.2.2.2.2.1.1.2.1,fun y hy=>hs.2.2.2.2.2.2.1.2 y hy,fun y hy=>hs.2.2.2.2.2.2.2.1.2.1.2 y hy,fun y hy=>(hs.2.2.2.2.2.1.2 y hy).2.1,fun y hy=>(hx.1.2 y hy).2.1,fun y hy=>hx.2.1.2 y hy⟩
 clear hp hs hx
 unfold l38_EngineOrder
 dsimp only
 rw[awake38]
 obtain⟨q,e,hq⟩:=light38 p s x
 rw[show l38_light (p,s,(x.1,x.2.1,x.2.2),())=some q from e,bnd_mk]
 cases q with
 | false=>rfl
 | true =>
 have hq:=hq rfl
 rw[Bool.not_true,cnd_f]
 by_cases hk:PlanOkD p/\StateOkD p s/\s.2.1=0/\InOk p x
 rotate_left
 ·rw[show engine_Step (p,s,(x.1,x.2.1,x.2.2),())=_ from p_Step_no p s x w hI (by omega) hk,bnd_mk]
  dsimp only
  rw[decide_eq_false (by split<;>(try split)<;>decide)]
  rfl
 have H:StepH p s x:=⟨hk.1,hk.2.1,hk.2.2.1,hk.2.2.2,hE⟩
 have hr:=stepH_range H
 have hel:=evT_len p s x H
 have hin:=inK_all p s x
 rw[show engine_Step (p,s,(x.1,x.2.1,x.2.2),())=some (StT p s x,OutT p s x,0,()) from p_Step H w hI,bnd_mk]
 unfold OutT
 dsimp only
 have h5:=cnt_fail p s x
 have h10:=cnt_stop p s x
 have h11:=cnt_end p s x
 obtain⟨l5,e5,f5⟩:=p_evof (EvT p s x) 5 (by omega)
 obtain⟨l10,e10,f10⟩:=p_evof (EvT p s x) 10 (by omega)
 obtain⟨l11,e11,f11⟩:=p_evof (EvT p s x) 11 (by omega)
 rw[decide_eq_true rfl,Bool.not_true,cnd_f,grow_loop _ (fun k=>((k:Int),())) (EvT p s x).length (Sum.inl ():Unit ⊕ Bool) _ ?_ ?_ ?_]
 rotate_left
 ·rfl
 ·intro k hk
  have:=(hin.2 _ (nth_mem (z:=zEv) hk)).1
  dsimp only
  rw[lt_true hk,cnd_t,ati_d zEv hk,bnd_mk,decide_eq_true this,Bool.not_true,cnd_f,wr_succ hk (by omega)]
  rfl
 ·dsimp only
  rw[lt_false]
  rfl
 rw[bndS_l,e5,bnd_mk,e10,bnd_mk,e11,bnd_mk,p_rise _ (by omega) hin.1,wr_id (x:=s.1+1) (by omega) (by omega)]
 have ht1:(StT p s x).1=s.1+1:=by unfold StT;split<;>rfl
 rw[ht1,decide_eq_true rfl]
 by_cases hF:FailN p s x
 ·have hst:(StT p s x).2.1=3:=by unfold StT;rw[if_pos hF]
  rw[if_pos hF] at h5
  rw[if_neg (fun k=>k.1 hF)] at h10 h11
  rw[hst,decide_eq_true (by omega:(l5.length:Int)=1),decide_eq_false (by omega:¬ (l10.length:Int)=1),decide_eq_false (by omega:¬ (l11.length:Int)=1)]
  cases decide (s.1+1<p.1)<;>rfl
 rw[if_neg hF] at h5
 rw[decide_eq_false (by omega:¬ (l5.length:Int)=1)]
 by_cases hO:OutN p s x
 ·have hst:(StT p s x).2.1=2:=by unfold StT;rw[if_neg hF];dsimp only;rw[if_pos hO]
  rw[if_pos ⟨hF,hO⟩] at h10
  rw[hst,decide_eq_true (by omega:(l10.length:Int)=1)]
  cases decide (s.1+1<p.1)<;>rfl
 rw[if_neg (fun k=>hO k.2)] at h10
 rw[decide_eq_false (by omega:¬ (l10.length:Int)=1)]
 by_cases hL:s.1+1=p.1
 ·have hst:(StT p s x).2.1=1:=by unfold StT;rw[if_neg hF];dsimp only;rw[if_neg hO,if_pos hL]
  rw[if_pos ⟨hF,hL⟩] at h11
  rw[hst,decide_eq_true (by omega:(l11.length:Int)=1)]
  cases decide (s.1+1<p.1)<;>rfl
 ·have hst:(StT p s x).2.1=0:=by unfold StT;rw[if_neg hF];dsimp only;rw[if_neg hO,if_neg hL]
  rw[hst,decide_eq_true (by omega:s.1+1<p.1)]
  rfl
end Go.Proofs.YtmomjjgokeffnaaGreat.F
