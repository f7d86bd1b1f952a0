/- Whole runs, by definition, and the program's. -/
import Derived.Test.YtmomjjgokeffnaaGreatP38ORunParts
set_option linter.unusedVariables false
set_option linter.unusedSectionVars false
set_option linter.unusedSimpArgs false
namespace Go.Proofs.YtmomjjgokeffnaaGreat.F
open Go.VX
open Classical
abbrev RunD:=List OutD×StateD×Int×Unit
noncomputable def RunL(p:PlanD):StateD->List InD->RunD
 | s,[]=>([],s,0,())
 | s,x::l=>if s.2.1=0 then(if InOk p x then(if(RunL p (StT p s x) l).2.2.1=0 then(OutT p s x::(RunL p (StT p s x) l).1,(RunL p (StT p s x) l).2.1,0,()) else([],zSt,1,())) else([],zSt,1,())) else([],s,0,())
structure InV (s:StateD):Prop where
 sb:In64 s.2.2.2.1.2.1
 cb:In64 s.2.2.2.2.1.1.2.1
 em:Rng s.2.2.2.2.2.2.1
 sm:Rng s.2.2.2.2.2.2.2.1.2.1
 kr:KRange s.2.2.2.2.2.1
structure InX (x:InD):Prop where
 xr:∀ y∈x.1,In64 y.2.1
 xw:Rng x.2.1
theorem inE_mk{s:StateD} {x:InD} (h:InV s) (k:InX x):InE s x:=⟨h.sb,h.cb,h.em,h.sm,h.kr,k.xr,k.xw⟩
theorem take_in{w:WatchD} {v:Int} {r:RuleD} (hw:In64 w.2.1) (hv:In64 v):In64 (TakeW w v r).2.1:=by
 unfold TakeW
 split
 ·exact hv
 ·exact hw
theorem stT_inv(p:PlanD) (s:StateD) (x:InD) (H:StepH p s x):InV (StT p s x):=by
 have ho:=stepH_on H
 have hl:=stepH_len H
 unfold StT
 by_cases hF:FailN p s x
 ·rw[if_pos hF]
  exact⟨H.hi.sb,H.hi.cb,H.hi.em,H.hi.sm,H.hi.kr⟩
 rw[if_neg hF]
 refine⟨?_,?_,?_,?_,?_⟩
 ·dsimp only
  unfold stopN
  by_cases h:StN p s x
  ·rw[if_pos h];exact take_in H.hi.sb (valR_in H.hi.xr ho.2.1 h.2)
  ·rw[if_neg h];exact H.hi.sb
 ·dsimp only
  unfold cutN
  by_cases h:CuN p s x
  ·rw[if_pos h]
   have hv:=valR_in H.hi.xr ho.2.2.2.1 h.2
   have ht:=take_in (r:=(p.2.2.2.2.2.2.2.2.2.1.2.2.1,p.2.2.2.2.2.2.2.2.2.1.2.2.2.2.2.2.2.1,false,())) H.hi.cb hv
   unfold cutR TakeC
   split
   ·exact ht
   ·split
    ·exact ht
    ·exact ht
  ·rw[if_neg h];exact H.hi.cb
 ·dsimp only
  unfold emaN
  by_cases h:p.2.2.2.2.2.2.2.2.2.2.2.1.1=true
  ·rw[if_pos h]
   have hd:=planD_ema H.hp h
   unfold EmaS
   by_cases h0:s.2.2.2.2.2.2.1.length=0
   ·rw[if_pos h0];exact H.hi.xw
   ·rw[if_neg h0]
    have hle:=stepH_ema H
    intro y hy
    obtain⟨i,hi,rfl⟩:=List.mem_map.1 hy
    rw[List.mem_range] at hi
    have h1:=rng_nth H.hi.xw hi
    have h2:=rng_nth H.hi.em (show i<s.2.2.2.2.2.2.1.length by omega)
    have h3:=lerp_in (nth 0 x.2.1 i) (nth 0 s.2.2.2.2.2.2.1 i) p.2.2.2.2.2.2.2.2.2.2.2.1.2.1 hd.1 hd.2
    unfold In64 at *
    rcases (by omega:nth 0 x.2.1 i<=nth 0 s.2.2.2.2.2.2.1 i\/nth 0 s.2.2.2.2.2.2.1 i<=nth 0 x.2.1 i) with k | k
    ·have:=h3.1 k;omega
    ·have:=h3.2 k;omega
  ·rw[if_neg h];exact H.hi.em
 ·dsimp only
  unfold swaN
  by_cases h:SwN p s
  ·rw[if_pos h]
   unfold SumS
   dsimp only
   by_cases h0:s.2.2.2.2.2.2.2.1.1=0
   ·rw[if_pos h0];exact H.hi.xw
   ·rw[if_neg h0]
    intro y hy
    obtain⟨i,hi,rfl⟩:=List.mem_map.1 hy
    rw[List.mem_range] at hi
    by_cases hin:In64 (nth 0 s.2.2.2.2.2.2.2.1.2.1 i+nth 0 x.2.1 i)
    ·exact hin
    ·exact(hF ⟨h,h0,i,hi,hin⟩).elim
  ·rw[if_neg h];exact H.hi.sm
 ·have:=stT_ins p s x H ⟨by have:=stepH_range H;unfold In64;omega,by omega,by have:=stateD_len H.hp H.hs;omega,by have:=stateD_len H.hp H.hs;omega,H.hi.kr⟩
  have:=this.kr
  unfold StT at this
  rw[if_neg hF] at this
  exact this
structure Good (p:PlanD) (s:StateD):Prop where
 ok:StateOkD p s
 ins:InS s
 inv:InV s
theorem good_step{p:PlanD} {s:StateD} {x:InD} (hp:PlanOkD p) (g:Good p s) (hg:s.2.1=0) (hx:InOk p x) (kx:InX x):StepH p s x/\Good p (StT p s x):=by
 have H:StepH p s x:=⟨hp,g.ok,hg,hx,inE_mk g.inv kx⟩
 exact⟨H,step_ok p s x hp g.ok hg hx.2.1 (stepH_on H).1,stT_ins p s x H g.ins,stT_inv p s x H⟩
theorem run_good{p:PlanD} (hp:PlanOkD p):∀ (l:List InD) (s:StateD),Good p s->(∀ x∈l,InX x)->(RunL p s l).2.2.1=0->Good p (RunL p s l).2.1
 | [],s,g,_,_=>g
 | x::l,s,g,hx,h=>by
  unfold RunL at h ⊢
  by_cases h0:s.2.1=0
  ·rw[if_pos h0] at h ⊢
   by_cases h1:InOk p x
   ·rw[if_pos h1] at h ⊢
    by_cases h2:(RunL p (StT p s x) l).2.2.1=0
    ·rw[if_pos h2]
     exact run_good hp l _ (good_step hp g h0 h1 (hx x (by simp))).2 (fun y hy=>hx y (by simp [hy])) h2
    ·rw[if_neg h2] at h;exact absurd h (by decide)
   ·rw[if_neg h1] at h;exact absurd h (by decide)
  ·rw[if_neg h0];exact g
theorem run_err{p:PlanD}:∀ (l:List InD) (s:StateD),(RunL p s l).2.2.1=0\/RunL p s l=([],zSt,1,())
 | [],s=>.inl rfl
 | x::l,s=>by
  unfold RunL
  by_cases h0:s.2.1=0
  ·rw[if_pos h0]
   by_cases h1:InOk p x
   ·rw[if_pos h1]
    by_cases h2:(RunL p (StT p s x) l).2.2.1=0
    ·rw[if_pos h2];exact .inl rfl
    ·rw[if_neg h2];exact .inr rfl
   ·rw[if_neg h1];exact .inr rfl
  ·rw[if_neg h0];exact .inl rfl
theorem run_app{p:PlanD}:∀ (l m:List InD) (s:StateD),(RunL p s l).2.2.1=0 ->
  ((RunL p (RunL p s l).2.1 m).2.2.1=0->RunL p s (l++m)=((RunL p s l).1++(RunL p (RunL p s l).2.1 m).1,(RunL p (RunL p s l).2.1 m).2.1,0,())) /\
  ((RunL p (RunL p s l).2.1 m).2.2.1≠0->RunL p s (l++m)=([],zSt,1,()))
 | [],m,s,_=>by
  rw[show RunL p s []=([],s,0,()) from rfl]
  dsimp only
  rw[List.nil_append]
  refine⟨fun h=>?_,fun h=>(run_err m s).resolve_left h⟩
  rw[← h]
  rfl
 | x::l,m,s,h=>by
  have e:RunL p s (x::l++m)=(if s.2.1=0 then(if InOk p x then(if(RunL p (StT p s x) (l++m)).2.2.1=0 then(OutT p s x::(RunL p (StT p s x) (l++m)).1,(RunL p (StT p s x) (l++m)).2.1,0,()) else([],zSt,1,())) else([],zSt,1,())) else([],s,0,())):=rfl
  rw[e]
  have e2:RunL p s (x::l)=(if s.2.1=0 then(if InOk p x then(if(RunL p (StT p s x) l).2.2.1=0 then(OutT p s x::(RunL p (StT p s x) l).1,(RunL p (StT p s x) l).2.1,0,()) else([],zSt,1,())) else([],zSt,1,())) else([],s,0,())):=rfl
  rw[e2] at h ⊢
  by_cases h0:s.2.1=0
  ·rw[if_pos h0] at h ⊢
   rw[if_pos h0]
   by_cases h1:InOk p x
   ·rw[if_pos h1] at h ⊢
    rw[if_pos h1]
    by_cases h2:(RunL p (StT p s x) l).2.2.1=0
    ·rw[if_pos h2]
     dsimp only
     obtain⟨k1,k2⟩:=run_app l m (StT p s x) h2
     refine⟨fun q=>?_,fun q=>?_⟩
     ·rw[k1 q]
      dsimp only
      rw[if_pos rfl]
      rfl
     ·rw[k2 q]
      dsimp only
      rw[if_neg (by decide)]
    ·rw[if_neg h2] at h;exact absurd h (by decide)
   ·rw[if_neg h1] at h;exact absurd h (by decide)
  ·rw[if_neg h0,if_neg h0]
   dsimp only
   cases m with
   | nil=>exact⟨fun _=>rfl,fun q=>(q rfl).elim⟩
   | cons y m =>
    have e3:RunL p s (y::m)=([],s,0,()):=by
     unfold RunL
     rw[if_neg h0]
    rw[e3]
    exact⟨fun _=>rfl,fun q=>(q rfl).elim⟩
theorem run_short{p:PlanD} (l m:List InD) (s:StateD) (h:(RunL p s l).2.2.1≠0):RunL p s (l++m)=([],zSt,1,()):=by
 induction l generalizing s with
 | nil=>exact(h rfl).elim
 | cons x l ih =>
  have e:RunL p s (x::l++m)=(if s.2.1=0 then(if InOk p x then(if(RunL p (StT p s x) (l++m)).2.2.1=0 then(OutT p s x::(RunL p (StT p s x) (l++m)).1,(RunL p (StT p s x) (l++m)).2.1,0,()) else([],zSt,1,())) else([],zSt,1,())) else([],s,0,())):=rfl
  rw[e]
  unfold RunL at h
  by_cases h0:s.2.1=0
  ·rw[if_pos h0] at h ⊢
   by_cases h1:InOk p x
   ·rw[if_pos h1] at h ⊢
    by_cases h2:(RunL p (StT p s x) l).2.2.1=0
    ·rw[if_pos h2] at h;exact(h rfl).elim
    ·rw[ih _ h2]
     dsimp only
     rw[if_neg (by decide)]
   ·rw[if_neg h1]
  ·rw[if_neg h0] at h;exact(h rfl).elim
theorem run_lens{p:PlanD} (hp:PlanOkD p):∀ (l:List InD) (s:StateD),Good p s->(∀ x∈l,InX x)->(RunL p s l).1.length<=l.length/\∀ o∈(RunL p s l).1,o.2.2.1.length<=24/\o.2.2.2.1.length<=8/\o.2.2.2.2.1.length<=40
 | [],s,_,_=>⟨Nat.le_refl _,fun o ho=>by cases ho⟩
 | x::l,s,g,hx=>by
  unfold RunL
  by_cases h0:s.2.1=0
  ·rw[if_pos h0]
   by_cases h1:InOk p x
   ·rw[if_pos h1]
    have hs:=good_step hp g h0 h1 (hx x (by simp))
    have ih:=run_lens hp l _ hs.2 (fun y hy=>hx y (by simp [hy]))
    by_cases h2:(RunL p (StT p s x) l).2.2.1=0
    ·rw[if_pos h2]
     refine⟨by simp only[List.length_cons];omega,fun o ho=>?_⟩
     rcases List.mem_cons.1 ho with rfl | ho
     ·exact outT_len p s x hs.1
     ·exact ih.2 o ho
    ·rw[if_neg h2];exact⟨by simp,fun o ho=>by cases ho⟩
   ·rw[if_neg h1];exact⟨by simp,fun o ho=>by cases ho⟩
  ·rw[if_neg h0];exact⟨by simp,fun o ho=>by cases ho⟩
theorem p_rstep{p:PlanD} {s:StateD} {x:InD} (w:WfP p) (hp:PlanOkD p) (g:Good p s) (hg:s.2.1=0) (kx:InX x) (hl:x.1.length<=1000):run_Runner_Step (((),x,()),((true,p,s,()),()))=some (if InOk p x then((OutT p s x,0,()),((true,p,StT p s x,()),())) else((zOut,1,()),((true,p,s,()),()))):=by
 unfold run_Runner_Step run_Runner_ok
 dsimp only
 simp only[bnd_mk,cnd_t,Bool.not_true,cnd_f]
 by_cases h:InOk p x
 ·have H:=(good_step hp g hg h kx).1
  rw[show engine_Step (p,s,(x.1,x.2.1,x.2.2),())=some (StT p s x,OutT p s x,0,()) from p_Step H w g.ins,if_pos h]
  rfl
 ·rw[show engine_Step (p,s,(x.1,x.2.1,x.2.2),())=_ from p_Step_no p s x w g.ins hl (fun k=>h k.2.2.2),if_neg (fun k=>h k.2),if_neg h]
  rfl
theorem p_From{p:PlanD} (w:WfP p) (hp:PlanOkD p) (l:List InD) (hl:l.length<=1000) (hx:∀ x∈l,InX x/\x.1.length<=1000) (s:StateD) (g:Good p s):run_From (p,s,l,())=some (RunL p s l):=by
 unfold run_From run_Restore
 dsimp only
 rw[p_stateD p s w g.ins,if_pos ⟨hp,g.ok⟩,bnd_mk,decide_eq_true rfl,Bool.not_true,cnd_f,bnd_mk]
 dsimp only
 rw[decide_eq_true rfl,Bool.not_true,cnd_f]
 have key:∀ (n k:Nat) (tr:List OutD) (s:StateD),l.length-k=n->k<=l.length->tr.length<=k->Good p s ->
   loopP (fun(s3:List OutD×Int×(Bool×PlanD×StateD×Unit)×Unit)=>cnd (decide (s3.2.1<(l.length:Int))) (bnd (ati l s3.2.1) fun v4=>cnd (!decide (s3.2.2.1.2.2.1.2.1=0)) (inrE (inlE (s3.1,s3.2.2.1,()))) (bnd (run_Runner_Step (((),v4,()),(s3.2.2.1,()))) fun r5=>cnd (!decide (r5.1.2.1=0)) (inrE (inrE (some ([],zSt,r5.1.2.1,())))) (bnd (app 1466015503701 s3.1 [r5.1.1]) fun v6=>inlE (v6,wr .i64 (s3.2.1+1),r5.2.1,())))) (inrE (inlE (s3.1,s3.2.2.1,())))) (tr,(k:Int),(true,p,s,()),()) =
   some (if(RunL p s (l.drop k)).2.2.1=0 then Sum.inl (tr++(RunL p s (l.drop k)).1,(true,p,(RunL p s (l.drop k)).2.1,()),()) else Sum.inr (([],zSt,1,()):RunD)):=by
  intro n
  induction n with
  | zero =>
   intro k tr s h1 h2 h3 g
   have hk:k=l.length:=by omega
   subst hk
   rw[List.drop_length,show RunL p s []=([],s,0,()) from rfl,if_pos rfl,List.append_nil]
   refine loopP_done ?_
   dsimp only
   rw[lt_false]
   rfl
  | succ n ih =>
   intro k tr s h1 h2 h3 g
   have hk:k<l.length:=by omega
   have hd:l.drop k=l[k]::l.drop (k+1):=by rw[List.drop_eq_getElem_cons hk]
   have hkx:=hx l[k] (List.getElem_mem hk)
   have hat:ati l (k:Int)=some l[k]:=ati_get hk
   rw[hd]
   have e2:RunL p s (l[k]::l.drop (k+1))=(if s.2.1=0 then(if InOk p l[k] then(if(RunL p (StT p s l[k]) (l.drop (k+1))).2.2.1=0 then(OutT p s l[k]::(RunL p (StT p s l[k]) (l.drop (k+1))).1,(RunL p (StT p s l[k]) (l.drop (k+1))).2.1,0,()) else([],zSt,1,())) else([],zSt,1,())) else([],s,0,())):=rfl
   rw[e2]
   generalize l[k]=x at *
   by_cases h0:s.2.1=0
   ·rw[if_pos h0]
    have hst:=p_rstep w hp g h0 hkx.1 hkx.2
    by_cases h4:InOk p x
    ·rw[if_pos h4] at hst ⊢
     have hg:=good_step hp g h0 h4 hkx.1
     refine(loopP_step (s':=(tr++[OutT p s x],((k+1:Nat):Int),(true,p,StT p s x,()),())) ?_).trans ?_
     ·dsimp only
      rw[lt_true hk,cnd_t,hat,bnd_mk,decide_eq_true h0,Bool.not_true,cnd_f,hst,bnd_mk]
      dsimp only
      rw[decide_eq_true rfl,Bool.not_true,cnd_f,app_ok (by rw[List.length_singleton];omega),bnd_mk,wr_succ hk (by omega)]
      rfl
     ·rw[ih (k+1) _ _ (by omega) (by omega) (by rw[List.length_append,List.length_singleton];omega) hg.2]
      by_cases h5:(RunL p (StT p s x) (l.drop (k+1))).2.2.1=0
      ·rw[if_pos h5,if_pos h5]
       dsimp only
       rw[if_pos rfl,List.append_assoc]
       rfl
      ·rw[if_neg h5,if_neg h5]
       dsimp only
       rw[if_neg (by decide)]
    ·rw[if_neg h4] at hst ⊢
     dsimp only
     rw[if_neg (by decide)]
     refine loopP_done ?_
     dsimp only
     rw[lt_true hk,cnd_t,hat,bnd_mk,decide_eq_true h0,Bool.not_true,cnd_f,hst,bnd_mk]
     rfl
   ·rw[if_neg h0]
    dsimp only
    rw[if_pos rfl,List.append_nil]
    refine loopP_done ?_
    dsimp only
    rw[lt_true hk,cnd_t,hat,bnd_mk,decide_eq_false h0]
    rfl
 have e:=key l.length 0 [] s (by omega) (by omega) (by simp) g
 rw[List.drop_zero] at e
 refine(congrArg (fun z=>bndS z _) e).trans ?_
 by_cases h:(RunL p s l).2.2.1=0
 ·rw[if_pos h]
  show some _=some _
  rw[List.nil_append]
  exact congrArg some (by rw[← h])
 ·rw[if_neg h,(run_err l s).resolve_left h]
  rfl
theorem p_FromB(p:PlanD) (s:StateD) (l:List InD) (w:WfP p) (h:InS s) (hn:¬ (PlanOkD p/\StateOkD p s)):run_FromB (p,s,l,())=some ([],zSt,1,()):=by
 unfold run_FromB run_RestoreB
 dsimp only
 rw[p_stateD p s w h,if_neg hn]
 rfl
abbrev s0D:StateD:=(0,0,0,(false,0,0,()),((false,0,0,()),0,4294967296,()),[],[],(0,[],()),())
theorem s0_good{p:PlanD} (hp:PlanOkD p):Good p s0D:=by
 have hr:=planD_head hp
 have hst:p.2.2.2.2.2.2.2.2.2.2.2.2.1≠-1->1<=p.2.2.2.2.2.2.2.2.1.2.2.2.1:=by
  obtain⟨_,_,_,_,h3,_⟩:=hp
  unfold StopOk at h3
  intro h
  omega
 have hcu:p.2.2.2.2.2.2.2.2.2.2.2.2.2.1≠-1->1<=p.2.2.2.2.2.2.2.2.2.1.2.2.2.2.1/\0<=p.2.2.2.2.2.2.2.2.2.1.2.2.2.2.2.1:=by
  obtain⟨_,_,_,_,_,h3,_⟩:=hp
  unfold CutOk at h3
  intro h
  omega
 have hke:p.2.2.2.2.2.2.2.2.2.2.2.2.2.2.1≠-1->0<=p.2.2.2.2.2.2.2.2.2.2.1.2.2.2.1:=by
  obtain⟨_,_,_,_,_,_,h3,_⟩:=hp
  unfold KeepOk at h3
  intro h
  omega
 have hT:TakenS s0D=0:=by unfold TakenS;rw[if_neg (by decide)]
 have hL:LooksS p.2.2.2.2.1 s0D=0:=by
  unfold LooksS looksF
  rw[hT]
  split
  ·rfl
  ·simp
 refine⟨⟨?_,?_,?_,?_,?_⟩,⟨⟨by decide,by decide⟩,by decide,by decide,by decide,fun x hx=>by cases hx⟩,⟨⟨by decide,by decide⟩,⟨by decide,by decide⟩,fun x hx=>(by cases hx),fun x hx=>(by cases hx),fun x hx=>by cases hx⟩⟩
 ·refine .inl ⟨rfl,by decide,?_,rfl,fun k=>?_⟩
  ·show(0:Int)<_;omega
  ·have h1:=hst k.1
   have h2:=k.2
   dsimp only at h2
   omega
 ·by_cases h:p.2.2.2.2.2.2.2.2.2.2.2.2.1=-1
  ·exact .inl ⟨h,rfl⟩
  ·exact .inr ⟨h,.inl ⟨rfl,rfl,rfl⟩⟩
 ·by_cases h:p.2.2.2.2.2.2.2.2.2.2.2.2.2.1=-1
  ·exact .inl ⟨h,rfl⟩
  ·have:=hcu h
   exact .inr ⟨h,⟨fun k=>k.2 ⟨rfl,rfl⟩,by decide,by decide,by decide,by decide,by decide,by decide⟩,.inl ⟨rfl,rfl,rfl⟩,by dsimp only;omega,by dsimp only;omega⟩
 ·by_cases h:p.2.2.2.2.2.2.2.2.2.2.2.2.2.2.1=-1
  ·exact .inl ⟨h,rfl⟩
  ·have:=hke h
   exact .inr ⟨h,by rw[hL];decide,⟨fun i hi=>by simp at hi,by dsimp only[List.length_nil];omega⟩,fun i hi=>by simp at hi⟩
 ·unfold AvgSt
  rw[hT]
  simp [sumsF]
theorem p_All{p:PlanD} (w:WfP p) (hp:PlanOkD p) (l:List InD) (hl:l.length<=1000) (hx:∀ x∈l,InX x/\x.1.length<=1000):run_All (p,l,())=some (RunL p s0D l):=by
 unfold run_All
 dsimp only
 rw[show state_New ()=some s0D from rfl,bnd_mk,p_From w hp l hl hx s0D (s0_good hp)]
 rfl
theorem p_AllB(p:PlanD) (l:List InD) (w:WfP p) (hn:¬ PlanOkD p):run_AllB (p,l,())=some ([],zSt,1,()):=by
 unfold run_AllB
 dsimp only
 rw[show state_New ()=some s0D from rfl,bnd_mk,p_FromB p s0D l w ⟨⟨by decide,by decide⟩,by decide,by decide,by decide,fun x hx=>by cases hx⟩ (fun k=>hn k.1)]
 rfl
theorem r_same39(a b:List OutD) (hl:a.length<=1000) (ha:∀ o∈a,o.2.2.1.length<=24/\o.2.2.2.1.length<=8/\o.2.2.2.2.1.length<=40) (e:a=b):q39_Same (a,b,())=some true:=by
 subst e
 unfold q39_Same
 dsimp only
 rw[decide_eq_true rfl,Bool.not_true,cnd_f,grow_loop _ (fun k=>((k:Int),())) a.length (Sum.inl ():Unit ⊕ Bool) _ ?_ ?_ ?_]
 ·rfl
 ·rfl
 ·intro k hk
  have h:=ha _ (nth_mem (z:=zOut) hk)
  dsimp only
  rw[lt_true hk,cnd_t,ati_d zOut hk,bnd_mk,bnd_mk,r_sameO _ _ (by omega) (by omega) (by omega),decide_eq_true rfl,bnd_mk,Bool.not_true,cnd_f,wr_succ hk (by omega)]
  rfl
 ·dsimp only
  rw[lt_false]
  rfl
end Go.Proofs.YtmomjjgokeffnaaGreat.F
