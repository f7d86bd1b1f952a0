/- The law RunFrom, in plain Lean: the trace of any run, from any state on, and the state then; a runner tells the same, step by step. -/
import Derived.Test.YtmomjjgokeffnaaGreatVx3
import Derived.Test.YtmomjjgokeffnaaGreatLib2RunFrom
set_option linter.unusedVariables false
set_option linter.unusedSimpArgs false
namespace Go.Proofs.YtmomjjgokeffnaaGreat.F
open Go.VX
open Classical
theorem z_insR:InS zSt:=⟨⟨by decide,by decide⟩,by decide,by decide,by decide,fun x hx=>by cases hx⟩
theorem pure_RunFrom(x:Ty.D (.tu T34 (.tu T44 (.tu T83 .unit)))) (h:Ty.wf (.tu T34 (.tu T44 (.tu T83 .unit))) x):l39_RunFrom x=some true\/l39_RunFromB x=some true:=by
 obtain⟨p,s,l,_⟩:=x
 obtain⟨hp,hs,hl,_⟩:=h
 change PlanD at p
 change StateD at s
 change List InD at l
 have w:WfP p:=by
  obtain⟨a0,a1,a2,a3,a4,sp,fz,tr,st,cu,ke,em,o1,o2,o3,sf,se,_⟩:=p
  obtain⟨_,_,_,_,_,hsp,hfz,htr,_⟩:=hp
  exact⟨hsp.1,hfz.1,htr.1,fun t ht=>(htr.2 t ht).2.2.1.1⟩
 have hI:InS s:=⟨hs.1,hs.2.2.2.2.2.1.1,hs.2.2.2.2.2.2.1.1,hs.2.2.2.2.2.2.2.1.2.1.1,fun x hx=>(hs.2.2.2.2.2.1.2 x hx).2.1⟩
 have hV:InV s:=⟨hs.2.2.2.1.2.1,hs.2.2.2.2.1.1.2.1,fun y hy=>hs.2.2.2.2.2.2.1.2 y hy,fun y hy=>hs.2.2.2.2.2.2.2.1.2.1.2 y hy,fun y hy=>(hs.2.2.2.2.2.1.2 y hy).2.1⟩
 have hX:∀ x∈l,InX x:=fun x hx=>by
  have h:=hl.2 x hx
  exact⟨fun y hy=>(h.1.2 y hy).2.1,fun y hy=>h.2.1.2 y hy⟩
 clear hp hl hs
 obtain⟨q,e,hq⟩:=small39 p s l
 unfold l39_RunFrom l39_RunFromB
 dsimp only
 rw[awake39,e]
 cases q with
 | false=>exact .inl rfl
 | true =>
 have hq:=hq rfl
 simp only[bnd_mk,Bool.not_true,cnd_f]
 have hx1:∀ x∈l,InX x/\x.1.length<=1000:=fun x hx=>⟨hX x hx,by have:=(hq.2.2.1 x hx).1;omega⟩
 by_cases hk:PlanOkD p/\StateOkD p s
 rotate_left
 ·right
  have hB:run_RestoreB (p,s,())=some ((),1,()):=by
   unfold run_RestoreB
   dsimp only
   rw[p_stateD p s w hI,if_neg hk]
   rfl
  rw[p_FromB p s l w hI hk,hB,r_mayD p w]
  have hz1:q37_Same (zSt,zSt,())=some true:=(r_sameD zSt zSt z_insR).trans (congrArg some (decide_eq_true rfl))
  simp only[bnd_mk]
  by_cases hpk:PlanOkD p
  ·rw[decide_eq_true hpk,r_stateD p s hpk hI,decide_eq_false (fun z=>hk ⟨hpk,z⟩)]
   simp only[bnd_mk,Bool.not_true,Bool.not_false,cnd_t,cnd_f]
   rw[hz1]
   rfl
  ·rw[decide_eq_false hpk]
   simp only[bnd_mk,Bool.not_true,Bool.not_false,cnd_t,cnd_f]
   rw[hz1]
   rfl
 left
 have g:Good p s:=⟨hk.2,hI,hV⟩
 have hA:run_Restore (p,s,())=some (((),0,()),((true,p,s,()),())):=by
  unfold run_Restore
  dsimp only
  rw[p_stateD p s w hI,if_pos hk]
  rfl
 have lens:=run_lens hk.1 l s g hX
 have hin:=run_ins hk.1 l s g hX
 have hplan:run_Runner_Plan (((),()),((true,p,s,()),()))=some p:=rfl
 rw[p_From w hk.1 l (by omega) hx1 s g,hA,r_mayD p w,decide_eq_true hk.1,r_stateD p s hk.1 hI,decide_eq_true hk.2,r_From hk.1 l (by omega) hx1 s g]
 simp only[bnd_mk,Bool.not_true,Bool.not_false,cnd_t,cnd_f,decide_true]
 rw[r_same39 _ _ (by omega) lens.2 rfl,r_sameD _ _ hin,decide_eq_true rfl]
 simp only[bnd_mk,Bool.not_true,Bool.not_false,cnd_t,cnd_f]
 rw[hplan]
 simp only[bnd_mk]
 rw[alike_self p hk.1]
 simp only[bnd_mk,Bool.not_true,Bool.not_false,cnd_t,cnd_f]
 by_cases he:(RunL p s l).2.2.1=0
 rotate_left
 ·rw[decide_eq_false he]
  rw[loopP_done (r:=(.inl ((true,p,s,()),()):((Bool×PlanD×StateD×Unit)×Unit) ⊕ Bool)) (by
   dsimp only
   cases decide ((0:Int)<(l.length:Int))<;>rfl)]
  rfl
 rw[he]
 generalize hW:(RunL p s l).1=W at *
 generalize hU:(RunL p s l).2.1=u at *
 have hR:RunL p s l=(W,u,0,()):=by rw[← hW,← hU,← he]
 have hst:∀ s':StateD,run_Runner_State (((),()),((true,p,s',()),()))=some s':=fun _=>rfl
 have hsu:q37_Same (u,u,())=some true:=(r_sameD u u hin).trans (congrArg some (decide_eq_true rfl))
 have hso:q38_Same (zOut,zOut,())=some true:=(r_sameO zOut zOut (by decide) (by decide) (by decide)).trans (congrArg some (decide_eq_true rfl))
 suffices hloop:∃ r,loopP (fun(s26:Int×(Bool×PlanD×StateD×Unit)×Unit)=>bnd (cnd (decide (s26.1<(l.length:Int))) (some true) (some false)) fun j27=>cnd j27 (bnd (ati l s26.1) fun v28=>bnd (run_Runner_Step (((),v28,()),(s26.2.1,()))) fun r29=>cnd (decide (s26.1>=(W.length:Int))) (bnd (cnd (!decide (r29.1.2.1=0)) (bnd (q38_Same (r29.1.1,(0,0,[],[],[],0,()),())) fun r30=>some r30) (some false)) fun j31=>bnd (cnd j31 (bnd (run_Runner_State (((),()),(r29.2.1,()))) fun r32=>bnd (q37_Same (r32,u,())) fun r33=>some r33) (some false)) fun j34=>bnd (cnd j34 (bnd (some true) fun r35=>some r35) (some false)) fun j36=>inrE (inrE (some j36))) (bnd (cnd (!(!decide (r29.1.2.1=0))) (bnd (ati W s26.1) fun v37=>bnd (q38_Same (r29.1.1,v37,())) fun r38=>some (!r38)) (some true)) fun j39=>cnd j39 (inrE (inrE (some false))) (inlE (wr .i64 (s26.1+1),r29.2.1,())))) (inrE (inlE (s26.2.1,())))) (0,(true,p,s,()),())=some r/\(r=.inr true\/r=.inl ((true,p,u,()),())) by
  obtain⟨r,e1,e2⟩:=hloop
  refine(congrArg (fun z=>bndS z _) e1).trans ?_
  rcases e2 with rfl | rfl
  ·rfl
  ·rw[bndS_l]
   simp only[decide_true,Bool.not_true,Bool.not_false,cnd_t]
   rw[hst,bnd_mk,hsu]
   rfl
 have key:∀ (n k:Nat) (s:StateD),l.length-k=n->k<=l.length->Good p s->RunL p s (l.drop k)=(W.drop k,u,0,())->k<=W.length ->
   ∃ r,loopP (fun(s26:Int×(Bool×PlanD×StateD×Unit)×Unit)=>bnd (cnd (decide (s26.1<(l.length:Int))) (some true) (some false)) fun j27=>cnd j27 (bnd (ati l s26.1) fun v28=>bnd (run_Runner_Step (((),v28,()),(s26.2.1,()))) fun r29=>cnd (decide (s26.1>=(W.length:Int))) (bnd (cnd (!decide (r29.1.2.1=0)) (bnd (q38_Same (r29.1.1,(0,0,[],[],[],0,()),())) fun r30=>some r30) (some false)) fun j31=>bnd (cnd j31 (bnd (run_Runner_State (((),()),(r29.2.1,()))) fun r32=>bnd (q37_Same (r32,u,())) fun r33=>some r33) (some false)) fun j34=>bnd (cnd j34 (bnd (some true) fun r35=>some r35) (some false)) fun j36=>inrE (inrE (some j36))) (bnd (cnd (!(!decide (r29.1.2.1=0))) (bnd (ati W s26.1) fun v37=>bnd (q38_Same (r29.1.1,v37,())) fun r38=>some (!r38)) (some true)) fun j39=>cnd j39 (inrE (inrE (some false))) (inlE (wr .i64 (s26.1+1),r29.2.1,())))) (inrE (inlE (s26.2.1,())))) ((k:Int),(true,p,s,()),())=some r/\(r=.inr true\/r=.inl ((true,p,u,()),())):=by
  intro n
  induction n with
  | zero =>
   intro k s h1 h2 g h3 h4
   have hkl:k=l.length:=by omega
   subst hkl
   rw[List.drop_length,show RunL p s []=([],s,0,()) from rfl] at h3
   have hsu2:s=u:=by injection h3 with _ h3;injection h3
   subst hsu2
   refine⟨_,loopP_done (r:=.inl ((true,p,s,()),())) ?_,.inr rfl⟩
   dsimp only
   rw[lt_false]
   rfl
  | succ n ih =>
   intro k s h1 h2 g h3 h4
   have hkl:k<l.length:=by omega
   have hd:l.drop k=l[k]::l.drop (k+1):=by rw[List.drop_eq_getElem_cons hkl]
   have hkx:=hx1 l[k] (List.getElem_mem hkl)
   have hat:ati l (k:Int)=some l[k]:=ati_get hkl
   rw[hd,run_cons] at h3
   generalize l[k]=x at *
   by_cases h0:s.2.1=0
   ·rw[if_pos h0] at h3
    by_cases h5:InOk p x
    ·rw[if_pos h5] at h3
     by_cases h6:(RunL p (StT p s x) (l.drop (k+1))).2.2.1=0
     ·rw[if_pos h6] at h3
      have hg:=good_step hk.1 g h0 h5 hkx.1
      have ho:=outT_len p s x hg.1
      have hWk:W.drop k=OutT p s x::(RunL p (StT p s x) (l.drop (k+1))).1:=by injection h3 with h3 _;exact h3.symm
      have hu2:(RunL p (StT p s x) (l.drop (k+1))).2.1=u:=by injection h3 with _ h3;injection h3
      have hkW:k<W.length:=by
       by_cases c:k<W.length
       ·exact c
       ·rw[List.drop_eq_nil_of_le (by omega)] at hWk;cases hWk
      rw[List.drop_eq_getElem_cons hkW] at hWk
      have hw1:W[k]=OutT p s x:=by injection hWk
      have hw2:W.drop (k+1)=(RunL p (StT p s x) (l.drop (k+1))).1:=by injection hWk
      have hatW:ati W (k:Int)=some (OutT p s x):=by rw[ati_get hkW,hw1]
      have hstep:=p_rstep w hk.1 g h0 hkx.1 hkx.2
      rw[if_pos h5] at hstep
      obtain⟨r,e1,e2⟩:=ih (k+1) (StT p s x) (by omega) (by omega) hg.2 (by rw[hw2,← hu2,← h6]) (by omega)
      refine⟨r,(loopP_step (s':=(((k+1:Nat):Int),(true,p,StT p s x,()),())) ?_).trans e1,e2⟩
      dsimp only
      rw[lt_true hkl,cnd_t,bnd_mk,cnd_t,hat,bnd_mk,hstep,bnd_mk]
      dsimp only
      rw[decide_eq_false (by omega:¬ (k:Int)>=(W.length:Int)),cnd_f,decide_eq_true rfl,Bool.not_true,Bool.not_false,cnd_t,hatW,bnd_mk,r_sameO _ _ (by omega) (by omega) (by omega),decide_eq_true rfl,wr_succ hkl (by omega)]
      rfl
     ·rw[if_neg h6] at h3
      injection h3 with _ h3;injection h3 with _ h3;injection h3 with h3 _
      exact absurd h3 (by decide)
    ·rw[if_neg h5] at h3
     injection h3 with _ h3;injection h3 with _ h3;injection h3 with h3 _
     exact absurd h3 (by decide)
   ·rw[if_neg h0] at h3
    have hsu2:s=u:=by injection h3 with _ h3;injection h3
    have hWk:W.drop k=[]:=by injection h3 with h3 _;exact h3.symm
    have hkW:W.length<=k:=by
     have:=congrArg List.length hWk
     rw[List.length_drop,List.length_nil] at this
     omega
    subst hsu2
    obtain⟨ee,hne,hstep⟩:=p_rstep_no w g h0 hkx.2
    refine⟨_,loopP_done (r:=.inr true) ?_,.inl rfl⟩
    dsimp only
    rw[lt_true hkl,cnd_t,bnd_mk,cnd_t,hat,bnd_mk,hstep,bnd_mk]
    dsimp only
    rw[decide_eq_true (by omega:(k:Int)>=(W.length:Int)),cnd_t,decide_eq_false hne,Bool.not_false,cnd_t,hso]
    simp only[bnd_mk,cnd_t]
    rw[hst,bnd_mk,hsu]
    rfl
 exact key l.length 0 s (by omega) (by omega) g (by rw[List.drop_zero,List.drop_zero];exact hR) (by omega)
end Go.Proofs.YtmomjjgokeffnaaGreat.F
