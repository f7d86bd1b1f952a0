/- The example of layer 39, and what is small. -/
import Derived.Test.YtmomjjgokeffnaaGreatP39ARunParts
import Derived.Test.YtmomjjgokeffnaaGreatP38ARunParts
set_option linter.unusedVariables false
set_option linter.unusedSectionVars false
set_option linter.unusedSimpArgs false
namespace Go.Proofs.YtmomjjgokeffnaaGreat.F
open Go.VX
open Classical
abbrev zIn:InD:=([],[],())
theorem small39(p:PlanD) (s:StateD) (l:List InD):∃ q,l39_Small (p,s,l,())=some q/\(q=true->p.1<=300/\l.length<=60/\(∀ x∈l,x.1.length<=30/\x.2.1.length<=30)/\s.2.2.2.2.2.1.length<=30/\s.2.2.2.2.2.2.1.length<=30/\s.2.2.2.2.2.2.2.1.2.1.length<=30):=by
 obtain⟨q1,e1⟩:=lightD p
 unfold l39_Small
 dsimp only
 rw[e1,light37]
 cases q1 with
 | false=>exact⟨false,rfl,fun k=>Bool.noConfusion k⟩
 | true =>
 by_cases h:s.2.2.2.2.2.1.length<=30/\s.2.2.2.2.2.2.1.length<=30/\s.2.2.2.2.2.2.2.1.2.1.length<=30
 rotate_left
 ·rw[decide_eq_false h];exact⟨false,rfl,fun k=>Bool.noConfusion k⟩
 rw[decide_eq_true h]
 by_cases h1:p.1>300
 ·rw[decide_eq_true h1];exact⟨false,rfl,fun k=>Bool.noConfusion k⟩
 rw[decide_eq_false h1]
 by_cases h2:(l.length:Int)>60
 ·rw[decide_eq_true h2];exact⟨false,rfl,fun k=>Bool.noConfusion k⟩
 rw[decide_eq_false h2]
 simp only[bnd_mk,Bool.not_true,Bool.not_false,cnd_t,cnd_f]
 have hb:∀ k,k<l.length->(bnd (cnd (!(decide (((nth zIn l k).1.length:Int)>30))) (bnd (some (nth zIn l k)) fun v9=>some (decide ((v9.2.1.length:Int)>30))) (some true)) fun j10=>cnd j10 (inrE (inrE (some false))) (inlE ((k:Int)+1,())):Option ((Int×Unit) ⊕ (Unit ⊕ Bool)))=if(nth zIn l k).1.length<=30/\(nth zIn l k).2.1.length<=30 then some (.inl ((k:Int)+1,())) else some (.inr (.inr false)):=by
  intro k hk
  by_cases c1:(nth zIn l k).1.length<=30
  ·rw[decide_eq_false (by omega:¬ ((nth zIn l k).1.length:Int)>30)]
   by_cases c2:(nth zIn l k).2.1.length<=30
   ·rw[if_pos ⟨c1,c2⟩,bnd_mk,decide_eq_false (by omega:¬ ((nth zIn l k).2.1.length:Int)>30)];rfl
   ·rw[if_neg (fun z=>c2 z.2),bnd_mk,decide_eq_true (by omega:((nth zIn l k).2.1.length:Int)>30)];rfl
  ·rw[if_neg (fun z=>c1 z.1),decide_eq_true (by omega:((nth zIn l k).1.length:Int)>30)];rfl
 rcases find_loop (ρ:=Unit ⊕ Bool) (fun(s7:Int×Unit)=>cnd (decide (s7.1<(l.length:Int))) (bnd (ati l s7.1) fun v8=>bnd (cnd (!(decide ((v8.1.length:Int)>30))) (bnd (ati l s7.1) fun v9=>some (decide ((v9.2.1.length:Int)>30))) (some true)) fun j10=>cnd j10 (inrE (inrE (some false))) (inlE (wr .i64 (s7.1+1),()))) (inrE (inlE (())))) (fun k=>((k:Int),())) l.length (fun k=>¬ ((nth zIn l k).1.length<=30/\(nth zIn l k).2.1.length<=30)) (0,()) rfl (fun k hk hn=>by
  have:=hb k hk
  dsimp only
  rw[lt_true hk,cnd_t,ati_d zIn hk,bnd_mk,wr_succ hk (by omega),this,if_pos (not_not.1 hn)]
  rfl) with⟨k,hk,hn,e⟩ | ⟨hn,e⟩
 ·have:=hb k hk
  rw[e,loopP_done (r:=.inr false) (by
   dsimp only
   rw[lt_true hk,cnd_t,ati_d zIn hk,bnd_mk,wr_succ hk (by omega),this,if_neg hn])]
  exact⟨false,rfl,fun k=>Bool.noConfusion k⟩
 ·rw[e,loopP_done (r:=.inl ()) (by
   dsimp only
   rw[lt_false]
   rfl)]
  refine⟨true,rfl,fun _=>⟨by omega,by omega,fun x hx=>?_,h⟩⟩
  obtain⟨i,hi,rfl⟩:=List.getElem_of_mem hx
  have:=not_not.1 (hn i hi)
  simpa [nth,List.getD,hi] using this
abbrev exR:PlanD:=(2,0,0,1,0,[(0,2,())],[[false]],[(0,0,[exSeg 2 8],()),(0,1,[exSeg 2 8],()),(0,2,[exSeg 2 8],())],(false,[],false,0,0,false,()),(false,[],false,0,0,0,0,0,()),(false,[],false,0,()),(false,0,()),-1,-1,-1,0,0,())
theorem exR_ok:PlanOkD exR:=exPlan 2 8 0 0 (false,[],false,0,()) (-1) (by omega) (by omega) (by omega) (by omega) (by omega) (by omega) (by omega) (by omega) (keep_none _ _)
theorem exR_wf:WfP exR:=⟨by simp,by simp,by simp,fun t ht=>by simp at ht;rcases ht with rfl | rfl | rfl<;>simp⟩
theorem exR_in:InOk exR zIn:=⟨rfl,rfl,fun i hi=>by simp at hi⟩
theorem exR_step(s:StateD):StT exR s zIn=(s.1+1,if s.1+1=2 then 1 else 0,if s.1+1=2 then s.1 else s.2.2.1,s.2.2.2.1,s.2.2.2.2.1,s.2.2.2.2.2.1,s.2.2.2.2.2.2.1,s.2.2.2.2.2.2.2.1,()):=by
 have hk:¬ LkN exR s:=fun k=>by have:=k.1;exact absurd this (by decide)
 have hs:¬ SwN exR s:=fun k=>by have:=k.1;exact absurd this (by decide)
 unfold StT stopN cutN keptN emaN swaN
 rw[if_neg (fun k:FailN _ _ _=>hs k.1),if_neg (fun k:OutN _ _ _=>hk k.1.1),if_neg (fun k:OutN _ _ _=>hk k.1.1),if_neg (fun k:StN _ _ _=>hk k.1),if_neg (fun k:CuN _ _ _=>hk k.1),if_neg (fun k:KeN _ _ _=>hk k.1),if_neg (Bool.false_ne_true:¬ exR.2.2.2.2.2.2.2.2.2.2.2.1.1=true),if_neg hs]
theorem awake39:l39_awake ()=some true:=by
 have h:=p_All exR_wf exR_ok [zIn,zIn,zIn] (by simp) (fun x hx=>by
  simp at hx
  subst hx
  exact⟨⟨fun y hy=>(by cases hy),fun y hy=>by cases hy⟩,by simp⟩)
 have e1:StT exR s0D zIn=(1,0,0,(false,0,0,()),((false,0,0,()),0,4294967296,()),[],[],(0,[],()),()):=by
  rw[exR_step,if_neg (by decide)]
  rfl
 have e2:StT exR (1,0,0,(false,0,0,()),((false,0,0,()),0,4294967296,()),[],[],(0,[],()),()) zIn=(2,1,1,(false,0,0,()),((false,0,0,()),0,4294967296,()),[],[],(0,[],()),()):=by
  rw[exR_step,if_pos (by decide)]
  rfl
 have r3:RunL exR (2,1,1,(false,0,0,()),((false,0,0,()),0,4294967296,()),[],[],(0,[],()),()) [zIn]=([],(2,1,1,(false,0,0,()),((false,0,0,()),0,4294967296,()),[],[],(0,[],()),()),0,()):=by
  unfold RunL
  rw[if_neg (by decide)]
 have r2:∃ a,RunL exR (1,0,0,(false,0,0,()),((false,0,0,()),0,4294967296,()),[],[],(0,[],()),()) [zIn,zIn]=([a],(2,1,1,(false,0,0,()),((false,0,0,()),0,4294967296,()),[],[],(0,[],()),()),0,()):=by
  unfold RunL
  rw[if_pos rfl,if_pos exR_in,e2,r3,if_pos rfl]
  exact⟨_,rfl⟩
 have r1:∃ a b,RunL exR s0D [zIn,zIn,zIn]=([a,b],(2,1,1,(false,0,0,()),((false,0,0,()),0,4294967296,()),[],[],(0,[],()),()),0,()):=by
  obtain⟨a,r2⟩:=r2
  unfold RunL
  rw[if_pos rfl,if_pos exR_in,e1,r2,if_pos rfl]
  exact⟨_,_,rfl⟩
 obtain⟨a,b,r1⟩:=r1
 unfold l39_awake
 rw[show run_All (_,[([],[],()),([],[],()),([],[],())],())=_ from h,r1]
 rfl
end Go.Proofs.YtmomjjgokeffnaaGreat.F
