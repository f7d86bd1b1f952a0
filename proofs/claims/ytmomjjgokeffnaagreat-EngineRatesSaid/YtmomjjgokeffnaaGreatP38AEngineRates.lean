/- The example of layer 38: the first step of a run of two steps begins its phase and cuts nothing; the second one fails. -/
import Derived.Test.YtmomjjgokeffnaaGreatP38OEngineRates
set_option linter.unusedVariables false
set_option linter.unusedSectionVars false
set_option linter.unusedSimpArgs false
namespace Go.Proofs.YtmomjjgokeffnaaGreat.F
open Go.VX
open Classical
abbrev exQ:PlanD:=(2,1,0,1,0,[(0,2,())],[[false]],[(0,0,[exSeg 2 8],()),(0,1,[exSeg 2 8],()),(0,2,[exSeg 2 8],())],(false,[],false,0,0,false,()),(false,[],false,0,0,0,0,0,()),(false,[],false,0,()),(false,0,()),-1,-1,-1,0,1,())
abbrev exS:StateD:=(0,0,0,(false,0,0,()),((false,0,0,()),0,4294967296,()),[],[],(0,[],()),())
theorem exQ_ok:PlanOkD exQ:=by
 refine⟨(by unfold HeadOk;omega:HeadOk 2 1 0 1 0),⟨fun i hi=>?_,rfl,by simp⟩,⟨fun i hi=>?_,rfl⟩,⟨fun i hi=>?_,rfl⟩,.inl ⟨rfl,rfl⟩,.inl ⟨rfl,rfl⟩,.inl ⟨rfl,rfl⟩,?_⟩
 ·have:i=0:=by simp at hi;exact hi
  subst this
  exact⟨by show(0:Int)<2;omega,rfl⟩
 ·have:i=0:=by simp at hi;exact hi
  subst this
  rfl
 ·have:i=0\/i=1\/i=2:=by simp at hi;omega
  rcases this with rfl | rfl | rfl
  ·exact exTrack 2 8 (by omega) (by omega) (by omega) (by omega) 0 0 0 rfl rfl
  ·exact exTrack 2 8 (by omega) (by omega) (by omega) (by omega) 1 0 1 rfl rfl
  ·exact exTrack 2 8 (by omega) (by omega) (by omega) (by omega) 2 0 2 rfl rfl
 ·unfold AvgOk
  simp [eqT]
theorem exQ_wf:WfP exQ:=⟨by simp,by simp,by simp,fun t ht=>by simp at ht;rcases ht with rfl | rfl | rfl<;>simp⟩
theorem exS_ok:StateOkD exQ exS:=by
 refine⟨.inl ⟨rfl,by decide,by decide,rfl,fun k=>k.1 rfl⟩,.inl ⟨rfl,rfl⟩,.inl ⟨rfl,rfl⟩,.inl ⟨rfl,rfl⟩,?_⟩
 unfold AvgSt TakenS
 simp [sumsF]
theorem ex_val2(step:Int) (h0:0<=step) (h1:step<2):valF [exSeg 2 8] step=8:=by
 have hl:=exSegs_ok 2 8 (by omega) (by omega) (by omega) (by omega)
 rcases p_segat _ step hl (by simp) (by simp) with⟨i,v,a1,a2,_,_,a3,_⟩ | ⟨a1,_⟩
 ·have hi:i=0:=by have:=a1.1;simp at this;exact this
  subst hi
  have hv:q24_Value ((0,2,0,2,(1,8,0,0,()),0,0,()),step,())=some 8:=by
   unfold q24_Value
   dsimp only
   rw[wr_id (x:=step-0) (by omega) (by omega),r_atS _ _ _ (by unfold CurveOk;dsimp only;omega) (by omega) (by omega) (by omega) (by omega)]
   rfl
  have hh:some v=some 8:=a3.symm.trans hv
  unfold valF
  rw[a2]
  exact Option.some.inj hh
 ·exact(a1 0 ⟨by simp,h0,h1⟩).elim
theorem inp_ok(w:Int):InOk exQ ([],[w],()):=⟨rfl,rfl,fun i hi=>by simp at hi⟩
theorem awake38:l38_awake ()=some true:=by
 have e0:∀ x:Int,-9223372036854775808<=x->x<=9223372036854775807->InE exS ([],[x],()):=fun x h0 h1=>⟨⟨by decide,by decide⟩,⟨by decide,by decide⟩,fun y hy=>(by cases hy),fun y hy=>(by cases hy),fun y hy=>(by cases hy),fun y hy=>(by cases hy),fun y hy=>by
  rw[List.mem_singleton] at hy
  subst hy
  exact⟨h0,h1⟩⟩
 have H1:StepH exQ exS ([],[9223372036854775807],()):=⟨exQ_ok,exS_ok,rfl,inp_ok _,e0 _ (by decide) (by decide)⟩
 have i1:InS exS:=⟨⟨by decide,by decide⟩,by decide,by decide,by decide,fun x hx=>by cases hx⟩
 have hk:∀ s:StateD,¬ LkN exQ s:=fun s k=>by have:=k.1;exact absurd this (by decide)
 have hF1:¬ FailN exQ exS ([],[9223372036854775807],()):=fun k=>k.2.1 rfl
 have hS1:SwN exQ exS:=⟨by decide,by decide,by decide⟩
 have t1:StT exQ exS ([],[9223372036854775807],())=(1,0,0,(false,0,0,()),((false,0,0,()),0,4294967296,()),[],[],(1,[9223372036854775807],()),()):=by
  unfold StT stopN cutN keptN emaN swaN SumS
  rw[if_neg hF1,if_neg (fun k:OutN _ _ _=>hk _ k.1.1),if_neg (fun k:OutN _ _ _=>hk _ k.1.1),if_neg (by decide),if_neg (by decide),if_neg (fun k:StN _ _ _=>hk _ k.1),if_neg (fun k:CuN _ _ _=>hk _ k.1),if_neg (fun k:KeN _ _ _=>hk _ k.1),if_neg (by decide),if_pos hS1,if_pos rfl]
  rfl
 have hB:evB exQ 0 0=[(0,1,0,())]:=by
  unfold evB begN
  rw[if_pos (show(nth zSpan exQ.2.2.2.2.2.1 0).1=0 from rfl)]
  simp [evG,isF,wasF,nth]
 have v1:EvT exQ exS ([],[9223372036854775807],())=[(0,1,0,()),(0,4,0,())]:=by
  unfold EvT evW evM evK evD evC evS evE
  rw[if_neg hF1,if_pos hS1,if_neg (hk _),if_neg (fun k=>hk _ k.1.1),if_neg (fun k=>hk _ k.1.1),if_neg (fun k=>hk _ k.1.1),if_neg (fun k=>hk _ k.1.1),if_neg (by decide),show evB exQ exS.1 (phN exQ.2.2.2.2.2.1 exS.1)=_ from hB]
  rfl
 have x1:nth 0 (ValS exQ exS.2.2.2.2.1 0 0) 0=8:=by
  rw[valS_nth _ _ _ _ 0 (by decide)]
  unfold valT
  rw[if_neg (by decide),if_neg (fun k=>k.2 rfl)]
  exact ex_val2 0 (by decide) (by decide)
 have hs2:=step_ok exQ exS ([],[9223372036854775807],()) exQ_ok exS_ok rfl rfl (by decide)
 have i2:=stT_ins exQ exS ([],[9223372036854775807],()) H1 i1
 rw[t1] at hs2 i2
 have H2:StepH exQ (1,0,0,(false,0,0,()),((false,0,0,()),0,4294967296,()),[],[],(1,[9223372036854775807],()),()) ([],[1],()):=⟨exQ_ok,hs2,rfl,inp_ok _,⟨⟨by decide,by decide⟩,⟨by decide,by decide⟩,fun y hy=>(by cases hy),fun y hy=>by
  have hy:y∈[(9223372036854775807:Int)]:=hy
  rw[List.mem_singleton] at hy
  subst hy
  exact⟨by decide,by decide⟩,fun y hy=>(by cases hy),fun y hy=>(by cases hy),fun y hy=>by
  have hy:y∈[(1:Int)]:=hy
  rw[List.mem_singleton] at hy
  subst hy
  exact⟨by decide,by decide⟩⟩⟩
 have hF2:FailN exQ (1,0,0,(false,0,0,()),((false,0,0,()),0,4294967296,()),[],[],(1,[9223372036854775807],()),()) ([],[1],()):=⟨⟨by decide,by decide,by decide⟩,by decide,0,by decide,fun k=>by have:=k.2;exact absurd this (by decide)⟩
 have t2:(StT exQ (1,0,0,(false,0,0,()),((false,0,0,()),0,4294967296,()),[],[],(1,[9223372036854775807],()),()) ([],[1],())).2.1=3:=by
  unfold StT
  rw[if_pos hF2]
 have p1:=p_Step H1 exQ_wf i1
 have p2:=p_Step H2 exQ_wf i2
 unfold l38_awake
 rw[show state_New ()=some exS from rfl,bnd_mk,show engine_Step (_,exS,([],[9223372036854775807],()),())=_ from p1,bnd_mk,t1,show engine_Step (_,_,([],[1],()),())=_ from p2,bnd_mk]
 unfold OutT
 dsimp only
 have x2:ati (ValS exQ ((false,0,0,()),0,4294967296,()) 0 (phN [(0,2,())] 0)) 0=some 8:=(ati_d (i:=0) 0 (show 0<(ValS exQ exS.2.2.2.2.1 0 0).length by rw[valS_len];decide)).trans (congrArg some x1)
 rw[t1,t2,v1,x2]
 rfl
end Go.Proofs.YtmomjjgokeffnaaGreat.F
