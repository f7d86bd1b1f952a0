/- The run of a turn. -/
import Derived.Test.YtmomjjgokeffnaaGreatP38RRunParts
set_option linter.unusedVariables false
set_option linter.unusedSectionVars false
set_option linter.unusedSimpArgs false
namespace Go.Proofs.YtmomjjgokeffnaaGreat.F
open Go.VX
open Classical
theorem planD_avg{p:PlanD} (hp:PlanOkD p):0<=p.2.2.2.2.2.2.2.2.2.2.2.2.2.2.2.1/\p.2.2.2.2.2.2.2.2.2.2.2.2.2.2.2.1<=1000000/\0<=p.2.2.2.2.2.2.2.2.2.2.2.2.2.2.2.2.1/\p.2.2.2.2.2.2.2.2.2.2.2.2.2.2.2.2.1<=1099511627776:=by
 have h1:=planD_head hp
 obtain⟨_,_,_,_,_,_,_,h⟩:=hp
 unfold AvgOk at h
 omega
theorem planD_ema{p:PlanD} (hp:PlanOkD p) (h:p.2.2.2.2.2.2.2.2.2.2.2.1.1=true):0<=p.2.2.2.2.2.2.2.2.2.2.2.1.2.1/\p.2.2.2.2.2.2.2.2.2.2.2.1.2.1<=4294967296:=by
 obtain⟨_,_,_,_,_,_,_,hh⟩:=hp
 unfold AvgOk at hh
 rcases hh.1 with k | k
 ·have e:=(eqT_iff (.pr .bool (.pr (.int .i64) .unit)) rfl _ _).1 k
  rw[e] at h
  exact Bool.noConfusion h
 ·exact⟨k.2.1,k.2.2⟩
theorem planD_eval{p:PlanD} (hp:PlanOkD p):0<=p.2.2.2.2.1/\p.2.2.2.2.1<=1000000:=by
 have h:HeadOk _ _ _ _ _:=hp.1
 unfold HeadOk at h
 omega
section
variable {p:PlanD} {s:StateD} {x:InD} (H:StepH p s x)
include H
theorem p_summed(s':StateD) (n:Int) (ev:List EvD):engine_turn_summed (((),()),(p,s',x,s.1,n,ev,()),())=some (decide (SwN p s)):=by
 have hr:=stepH_range H
 have ha:=planD_avg H.hp
 unfold engine_turn_summed SwN SwaP
 dsimp only
 by_cases k1:p.2.2.2.2.2.2.2.2.2.2.2.2.2.2.2.2.1>0
 ·rw[decide_eq_true k1,cnd_t,bnd_mk]
  by_cases k2:s.1>=p.2.2.2.2.2.2.2.2.2.2.2.2.2.2.2.1
  ·have hm:remI (s.1-p.2.2.2.2.2.2.2.2.2.2.2.2.2.2.2.1) p.2.2.2.2.2.2.2.2.2.2.2.2.2.2.2.2.1=some ((s.1-p.2.2.2.2.2.2.2.2.2.2.2.2.2.2.2.1) % p.2.2.2.2.2.2.2.2.2.2.2.2.2.2.2.2.1):=by
    unfold remI
    rw[if_neg (by omega),Int.tmod_eq_emod_of_nonneg (by omega)]
   rw[decide_eq_true k2,cnd_t,wr_id (x:=s.1-p.2.2.2.2.2.2.2.2.2.2.2.2.2.2.2.1) (by omega) (by omega),hm,bnd_mk,bnd_mk]
   exact congrArg some (decide_eq_decide.2 ⟨fun h=>⟨k1,k2,h⟩,fun h=>h.2.2⟩)
  ·rw[decide_eq_false k2,cnd_f,bnd_mk]
   exact congrArg some (dec_no fun h=>k2 h.2.1)
 ·rw[decide_eq_false k1,cnd_f,bnd_mk,cnd_f,bnd_mk]
  exact congrArg some (dec_no fun h=>k1 h.1)
theorem stepH_sums:0<=s.2.2.2.2.2.2.2.1.1/\s.2.2.2.2.2.2.2.1.1<1048576/\(s.2.2.2.2.2.2.2.1.1=0->s.2.2.2.2.2.2.2.1.2.1.length=0)/\(s.2.2.2.2.2.2.2.1.1≠0->s.2.2.2.2.2.2.2.1.2.1.length=x.2.1.length):=by
 have hr:=stepH_range H
 obtain⟨_,b2,b3⟩:=H.hs.2.2.2.2
 have ht:TakenS s=s.1:=by unfold TakenS;rw[H.hg,if_neg (by decide)]
 rw[ht] at b2 b3
 have hn:=sums_nn p.2.2.2.2.2.2.2.2.2.2.2.2.2.2.2.1 p.2.2.2.2.2.2.2.2.2.2.2.2.2.2.2.2.1 s.1.toNat
 have hw:=H.hx.2.1
 refine⟨by omega,by omega,fun h=>?_,fun h=>?_⟩
 ·rw[if_neg (by omega)] at b3
  omega
 ·rw[if_pos (by omega)] at b3
  omega
theorem stepH_ema:s.2.2.2.2.2.2.1.length=0\/s.2.2.2.2.2.2.1.length=x.2.1.length:=by
 obtain⟨b1,_,_⟩:=H.hs.2.2.2.2
 have hw:=H.hx.2.1
 split at b1
 ·exact .inr (by omega)
 ·exact .inl (by omega)
theorem p_weights(n:Int) (ev:List EvD) (he:ev.length<=500) :
  engine_turn_weights (((),()),(p,s,x,s.1,n,ev,()),())=some (decide (¬ FailN p s x),((p,(if FailN p s x then s else(s.1,s.2.1,s.2.2.1,s.2.2.2.1,s.2.2.2.2.1,s.2.2.2.2.2.1,emaN p s x,swaN p s x,())),x,s.1,n,ev++(if FailN p s x then [(s.1,5,0,())] else evW p s),()),())):=by
 obtain⟨c0,c1,c2,c3⟩:=stepH_sums H
 have hl:=stepH_len H
 unfold engine_turn_weights
 dsimp only
 rw[p_summed H,bnd_mk]
 obtain⟨r,e,f1,f2⟩:=p_sadd s.2.2.2.2.2.2.2.1 x.2.1 c0 c1 c2 c3 (by omega) H.hi.sm H.hi.xw
 by_cases hF:FailN p s x
 ·rw[if_pos hF,if_pos hF,decide_eq_true hF.1,cnd_t,e,bnd_mk,decide_eq_false (f1 hF.2),Bool.not_false,cnd_t,p_tell _ _ _ _ (by dsimp only;omega),decide_eq_false (not_not.2 hF)]
  rfl
 rw[if_neg hF,if_neg hF,decide_eq_true hF]
 have hW:∀ {β γ:Type} (K:TurnD×Unit->Option γ),bndS (cnd (decide (SwN p s)) (bnd (swa_Add (s.2.2.2.2.2.2.2.1,x.2.1,())) fun r3=>cnd (!decide (r3.2.1=0)) (bnd (engine_turn_tell (((),5,0,()),((p,s,x,s.1,n,ev,()),()))) fun r4=>inrE (some (false,(r4.2.1,())))) (bnd (engine_turn_tell (((),4,s.2.2.2.2.2.2.2.1.1,()),((p,s,x,s.1,n,ev,()),()))) fun r5=>inlE ((r5.2.1.1,(r5.2.1.2.1.1,r5.2.1.2.1.2.1,r5.2.1.2.1.2.2.1,r5.2.1.2.1.2.2.2.1,r5.2.1.2.1.2.2.2.2.1,r5.2.1.2.1.2.2.2.2.2.1,r5.2.1.2.1.2.2.2.2.2.2.1,r3.1,r5.2.1.2.1.2.2.2.2.2.2.2.2),r5.2.1.2.2),()))) (inlE ((p,s,x,s.1,n,ev,()),())))=(fun(K:TurnD×Unit->Option (Bool×TurnD×Unit))=>K ((p,(s.1,s.2.1,s.2.2.1,s.2.2.2.1,s.2.2.2.2.1,s.2.2.2.2.2.1,s.2.2.2.2.2.2.1,swaN p s x,()),x,s.1,n,ev++evW p s,()),())):=by
  intro β γ K
  funext K
  unfold swaN evW
  by_cases h:SwN p s
  ·have hr:=f2 (fun k=>hF ⟨h,k⟩)
   subst hr
   rw[decide_eq_true h,cnd_t,e,bnd_mk,decide_eq_true rfl,Bool.not_true,cnd_f,p_tell _ _ _ _ (by dsimp only;omega),if_pos h,if_pos h]
   rfl
  ·rw[decide_eq_false h,cnd_f,if_neg h,if_neg h,List.append_nil]
   rfl
 refine(congrFun (hW (β:=Unit) (γ:=Unit) (fun _=>none)) _).trans ?_
 dsimp only
 unfold emaN
 by_cases h:p.2.2.2.2.2.2.2.2.2.2.2.1.1=true
 ·have hd:=planD_ema H.hp h
  rw[h,cnd_t,p_ema s.2.2.2.2.2.2.1 x.2.1 p.2.2.2.2.2.2.2.2.2.2.2.1.2.1 hd.1 hd.2 (by omega) (stepH_ema H) H.hi.em H.hi.xw,if_pos rfl]
  rfl
 ·rw[show p.2.2.2.2.2.2.2.2.2.2.2.1.1=false by cases hh:p.2.2.2.2.2.2.2.2.2.2.2.1.1 with | false=>rfl | true=>exact(h hh).elim,cnd_f,if_neg Bool.false_ne_true]
  rfl
theorem p_run(n:Nat) (hn:n=phN p.2.2.2.2.2.1 s.1):engine_turn_run (((),()),(p,s,x,s.1,(n:Int),[],()),())=some ((),((p,(s.1,(StT p s x).2),x,s.1,(n:Int),EvT p s x,()),())):=by
 have hr:=stepH_range H
 have hph:=planD_phase H.hp hr.1 hr.2.1
 have hbl:=evB_len p H.hp s.1 n
 have hev:=planD_eval H.hp
 have hml:=evX_len H
 have hkl:(evK p s x).length<=1:=len_if1 _ _
 have hdl:(evD p s x).length<=1:=len_if1 _ _
 have hcl:(evC p s x).length<=1:=len_if1 _ _
 have hsl:(evS p s x).length<=1:=len_if1 _ _
 have hwl:(evW p s).length<=1:=len_if1 _ _
 unfold engine_turn_run
 dsimp only
 rw[p_begins p H.hp s x s.1 n (by rw[hn];exact hph.1) [] (by simp),bnd_mk,List.nil_append]
 dsimp only
 rw[show ∀ t,engine_turn_weights (((),()),t,())=engine_turn_weights (((),()),t,()) from fun _=>rfl]
 rw[show engine_turn_weights (((),()),(p,s,x,s.1,(n:Int),evB p s.1 n,()),())=_ from p_weights H (n:Int) (evB p s.1 n) (by omega),bnd_mk]
 dsimp only
 unfold StT EvT
 rw[← hn]
 by_cases hF:FailN p s x
 ·rw[if_pos hF,if_pos hF,if_pos hF,if_pos hF,decide_eq_false (not_not.2 hF),Bool.not_false,cnd_t]
  rfl
 rw[if_neg hF,if_neg hF,if_neg hF,if_neg hF,decide_eq_true hF,Bool.not_true,cnd_f]
 dsimp only
 have hlk:∀ {β:Type} (K:Bool->Option β),bnd (cnd (decide (p.2.2.2.2.1>0)) (bnd (remI (wr .i64 (s.1+1)) p.2.2.2.2.1) fun v4=>some (decide (v4=0))) (some false)) K=K (decide (LkN p s)):=by
  intro β K
  unfold LkN
  by_cases k:p.2.2.2.2.1>0
  ·have hm:remI (s.1+1) p.2.2.2.2.1=some ((s.1+1) % p.2.2.2.2.1):=by
    unfold remI
    rw[if_neg (by omega),Int.tmod_eq_emod_of_nonneg (by omega)]
   rw[decide_eq_true k,cnd_t,wr_id (by omega) (by omega),hm,bnd_mk,bnd_mk]
   exact congrArg K (decide_eq_decide.2 (looked_next p.2.2.2.2.1 s.1 k))
  ·rw[decide_eq_false k,cnd_f,bnd_mk]
   exact congrArg K (dec_no fun h=>k h.1)
 refine(hlk _).trans ?_
 have hL:∀ {β:Type} (K:TurnD×Unit->Option β),bnd (cnd (decide (LkN p s)) (bnd (engine_turn_look (((),()),((p,(s.1,s.2.1,s.2.2.1,s.2.2.2.1,s.2.2.2.2.1,s.2.2.2.2.2.1,emaN p s x,swaN p s x,()),x,s.1,(n:Int),evB p s.1 n++evW p s,()),()))) fun r7=>some (r7.2.1,())) (some ((p,(s.1,s.2.1,s.2.2.1,s.2.2.2.1,s.2.2.2.2.1,s.2.2.2.2.2.1,emaN p s x,swaN p s x,()),x,s.1,(n:Int),evB p s.1 n++evW p s,()),()))) K=K ((p,(s.1,if OutN p s x then 2 else s.2.1,if OutN p s x then s.1 else s.2.2.1,stopN p s x,cutN p s x,keptN p s x,emaN p s x,swaN p s x,()),x,s.1,(n:Int),evB p s.1 n++evW p s++(evM p s x++(evK p s x++(evD p s x++(evC p s x++evS p s x)))),()),()):=by
  intro β K
  by_cases k:LkN p s
  ·rw[decide_eq_true k,cnd_t,p_look H _ _ _ _ (by rw[List.length_append];omega) k,bnd_mk,bnd_mk]
  ·have k1:¬ KeN p s x:=fun h=>k h.1
   have k2:¬ CuN p s x:=fun h=>k h.1
   have k3:¬ StN p s x:=fun h=>k h.1
   have k4:¬ OutN p s x:=fun h=>k3 h.1
   unfold evM evK evD evC evS stopN cutN keptN
   rw[decide_eq_false k,cnd_f,bnd_mk,if_neg k4,if_neg k4,if_neg k3,if_neg k2,if_neg k1,if_neg k,if_neg (fun h=>k1 h.1),if_neg (fun h=>k1 h.1),if_neg (fun h=>k2 h.1),if_neg k4]
   simp only[List.append_nil]
 refine(hL _).trans ?_
 dsimp only
 rw[wr_id (x:=p.1-1) (by omega) (by omega),p_tell _ _ _ _ (by
  dsimp only
  simp only[List.length_append]
  omega),bnd_mk]
 dsimp only
 unfold evE
 rw[H.hg]
 by_cases k:s.1+1=p.1
 ·rw[decide_eq_true (by omega:s.1=p.1-1),Bool.not_true,cnd_f,if_pos k,if_pos k,if_pos k]
  by_cases ho:OutN p s x
  ·rw[if_pos ho,if_pos ho,if_pos ho,if_pos ho]
   simp only[List.append_assoc]
   rfl
  ·rw[if_neg ho,if_neg ho,if_neg ho,if_neg ho]
   simp only[List.append_assoc]
   rfl
 ·rw[decide_eq_false (by omega:¬ s.1=p.1-1),Bool.not_false,cnd_t,if_neg k,if_neg k,if_neg k]
  simp only[List.append_assoc,List.append_nil]
end
end Go.Proofs.YtmomjjgokeffnaaGreat.F
