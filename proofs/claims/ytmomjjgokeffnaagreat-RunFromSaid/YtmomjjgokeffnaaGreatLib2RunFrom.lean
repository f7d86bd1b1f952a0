/- What the law RunFrom needs of plain lemmas: part 2. -/
import Derived.Test.YtmomjjgokeffnaaGreatLib1RunFrom
set_option linter.unusedVariables false
set_option linter.unusedSimpArgs false
set_option linter.unusedSectionVars false
namespace Go.Proofs.YtmomjjgokeffnaaGreat.F
open Go.VX
open Classical
theorem sumS_ne{sw:SumD} {w:List Int} (h:sw.1≠0):SumS sw w=(sw.1+1,(List.range w.length).map fun i=>nth 0 sw.2.1 i+nth 0 w i,()):=by
 unfold SumS
 rw[if_neg h]
theorem find_loop{σ ρ:Type} (f:σ->Option (σ ⊕ ρ)) (st:Nat->σ) (n:Nat) (bad:Nat->Prop) (s0:σ) (h0:st 0=s0) (h1:∀ k,k<n->¬ bad k->f (st k)=some (.inl (st (k+1)))) :
  (∃ k,k<n/\bad k/\loopP f s0=loopP f (st k))\/((∀ k,k<n->¬ bad k)/\loopP f s0=loopP f (st n)):=by
 subst h0
 have key:∀ k,k<=n->(∃ j,j<k/\bad j/\loopP f (st 0)=loopP f (st j))\/((∀ j,j<k->¬ bad j)/\loopP f (st 0)=loopP f (st k)):=by
  intro k
  induction k with
  | zero=>intro _;exact .inr ⟨fun j hj=>by omega,rfl⟩
  | succ k ih =>
   intro hk
   rcases ih (by omega) with⟨j,a,b,c⟩ | ⟨a,b⟩
   ·exact .inl ⟨j,by omega,b,c⟩
   ·by_cases hb:bad k
    ·exact .inl ⟨k,by omega,hb,b⟩
    ·refine .inr ⟨fun j hj=>?_,by rw[b,loopP_step (h1 k (by omega) hb)]⟩
     by_cases e:j=k
     ·rw[e];exact hb
     ·exact a j (by omega)
 rcases key n (Nat.le_refl _) with⟨j,a,b,c⟩ | h
 ·exact .inl ⟨j,a,b,c⟩
 ·exact .inr h
theorem p_sadd(sw:SumD) (w:List Int) (c0:0<=sw.1) (c1:sw.1<1048576) (hz:sw.1=0->sw.2.1.length=0) (hn:sw.1≠0->sw.2.1.length=w.length) (hl:w.length<=1000) (rs:Rng sw.2.1) (rw':Rng w) :
  ∃ r,swa_Add (sw,w,())=some r/\(SumFail sw w->r.2.1≠0)/\(¬ SumFail sw w->r=(SumS sw w,0,())):=by
 unfold swa_Add swa_Check
 dsimp only
 rw[dF (by omega:¬ sw.1<0),dF (by omega:¬ sw.1>1048576),dF (by omega:¬ sw.1=1048576)]
 by_cases h0:sw.1=0
 ·have hs:=hz h0
  rw[dT h0,dF (by omega:¬ (sw.2.1.length:Int)>0),show slices_Clone_int_int (w,())=some w from clone_ok w _ (by omega)]
  refine⟨((1,w,()),0,()),rfl,fun k=>(k.1 h0).elim,fun _=>?_⟩
  unfold SumS
  rw[if_pos h0,h0]
  rfl
 ·have hs:=hn h0
  rw[dF h0,dT (by omega:(sw.2.1.length:Int)=(w.length:Int)),wr_id (x:=sw.1+1) (by omega) (by omega)]
  simp only[Bool.not_false,Bool.not_true,cnd_t,cnd_f,bnd_mk,decide_true]
  rcases find_loop (ρ:=(SumD×Unit) ⊕ (SumD×Int×Unit)) (fun(s4:Int×(Int×(List (Int)×Unit))×Unit)=>cnd (decide (s4.1<(w.length:Int))) (bnd (ati w s4.1) fun v5=>bnd (ati sw.2.1 s4.1) fun v6=>bnd (fix_Add (v6,v5,())) fun r7=>cnd (!decide (r7.2.1=0)) (inrE (inrE (some ((0,[],()),r7.2.1,())))) (bnd (app 17592186044416 s4.2.1.2.1 [r7.1]) fun v8=>inlE (wr .i64 (s4.1+1),(s4.2.1.1,v8,s4.2.1.2.2),()))) (inrE (inlE (s4.2.1,())))) (fun k=>((k:Int),(sw.1+1,(List.range k).map fun i=>nth 0 sw.2.1 i+nth 0 w i,()),())) w.length (fun k=>¬ In64 (nth 0 sw.2.1 k+nth 0 w k)) (0,(sw.1+1,[],()),()) rfl (fun k hk hb=>by
   dsimp only
   obtain⟨r,e,h1,_⟩:=p_fadd (nth 0 sw.2.1 k) (nth 0 w k) (rng_nth rs (by omega)) (rng_nth rw' hk)
   have h1:=h1 (not_not.1 hb)
   subst h1
   rw[lt_true hk,cnd_t,ati_d 0 hk,bnd_mk,ati_d 0 (by omega:k<sw.2.1.length),bnd_mk,e,bnd_mk,dT rfl,Bool.not_true,cnd_f,app_ok (by rw[List.length_map,List.length_range,List.length_singleton];omega),bnd_mk,wr_succ hk (by omega),range_succ_map]
   rfl) with⟨k,hk,hb,e⟩ | ⟨hb,e⟩
  ·obtain⟨r,e1,_,h2⟩:=p_fadd (nth 0 sw.2.1 k) (nth 0 w k) (rng_nth rs (by omega)) (rng_nth rw' hk)
   have h2:=h2 hb
   rw[e,loopP_done (r:=.inr ((0,[],()),r.2.1,())) (by
    dsimp only
    rw[lt_true hk,cnd_t,ati_d 0 hk,bnd_mk,ati_d 0 (by omega:k<sw.2.1.length),bnd_mk,e1,bnd_mk,dF h2]
    rfl),bndS_r]
   exact⟨_,rfl,fun _=>h2,fun n=>(n ⟨h0,k,hk,hb⟩).elim⟩
  ·rw[e,loopP_done (r:=.inl ((sw.1+1,(List.range w.length).map fun i=>nth 0 sw.2.1 i+nth 0 w i,()),())) (by
    dsimp only
    rw[lt_false,cnd_f]
    rfl),bndS_l]
   refine⟨_,rfl,fun⟨_,k,hk,n⟩=>(hb k hk n).elim,fun _=>?_⟩
   rw[sumS_ne h0]
theorem r_sadd(sw:SumD) (w:List Int) (c0:0<=sw.1) (c1:sw.1<1048576) (hn:sw.1≠0->sw.2.1.length=w.length) (hl:w.length<=1000) (rs:Rng sw.2.1) (rw':Rng w) :
  ∃ r,q34_Add (sw,w,())=some r/\(SumFail sw w->r.2.1≠0)/\(¬ SumFail sw w->r=(SumS sw w,0,())):=by
 unfold q34_Add
 dsimp only
 rw[dF (by omega:¬ sw.1=1048576),wr_id (x:=sw.1+1) (by omega) (by omega)]
 by_cases h0:sw.1=0
 ·rw[dF (by omega:¬ sw.1>0)]
  simp only[cnd_t,cnd_f,bnd_mk]
  rw[grow_loop _ (fun k=>((k:Int),(sw.1+1,(List.range k).map fun i=>nth 0 w i,()),())) w.length (Sum.inl ((sw.1+1,w,()),()):(SumD×Unit) ⊕ (SumD×Int×Unit)) _ ?_ ?_ ?_]
  ·refine⟨_,rfl,fun k=>(k.1 h0).elim,fun _=>?_⟩
   unfold SumS
   rw[if_pos h0]
  ·rfl
  ·intro k hk
   dsimp only
   rw[lt_true hk,cnd_t,ati_d 0 hk,bnd_mk]
   refine(bndS_l _ _).trans ?_
   rw[app_ok (by rw[List.length_map,List.length_range,List.length_singleton];omega),bnd_mk,wr_succ hk (by omega),range_succ_map]
   rfl
  ·dsimp only
   rw[lt_false,cnd_f,range_nth]
   rfl
 ·have hs:=hn h0
  rw[dT (by omega:sw.1>0),dT (by omega:(sw.2.1.length:Int)=(w.length:Int))]
  simp only[Bool.not_true,cnd_t,cnd_f,bnd_mk]
  rcases find_loop (ρ:=(SumD×Unit) ⊕ (SumD×Int×Unit) ) (fun(s3:Int×(Int×(List (Int)×Unit))×Unit)=>cnd (decide (s3.1<(w.length:Int))) (bnd (ati w s3.1) fun v4=>bndS (bnd (ati sw.2.1 s3.1) fun v6=>bnd (ati w s3.1) fun v7=>bnd (q04_Add (v6,v7,())) fun r8=>cnd (!decide (r8.2.1=0)) (inrE (inrE (inrE (some ((0,[],()),r8.2.1,()))))) (inlE (r8.1,()))) fun j5=>bnd (app 17592186044416 s3.2.1.2.1 [j5.1]) fun v9=>inlE (wr .i64 (s3.1+1),(s3.2.1.1,v9,s3.2.1.2.2),())) (inrE (inlE (s3.2.1,())))) (fun k=>((k:Int),(sw.1+1,(List.range k).map fun i=>nth 0 sw.2.1 i+nth 0 w i,()),())) w.length (fun k=>¬ In64 (nth 0 sw.2.1 k+nth 0 w k)) (0,(sw.1+1,[],()),()) rfl (fun k hk hb=>by
   dsimp only
   obtain⟨r,e,h1,_⟩:=r_fadd (nth 0 sw.2.1 k) (nth 0 w k) (rng_nth rs (by omega)) (rng_nth rw' hk)
   have h1:=h1 (not_not.1 hb)
   subst h1
   rw[lt_true hk,cnd_t,ati_d 0 hk,bnd_mk,ati_d 0 (by omega:k<sw.2.1.length),bnd_mk,bnd_mk,e,bnd_mk,dT rfl,Bool.not_true,cnd_f]
   refine(bndS_l _ _).trans ?_
   rw[app_ok (by rw[List.length_map,List.length_range,List.length_singleton];omega),bnd_mk,wr_succ hk (by omega),range_succ_map]
   rfl) with⟨k,hk,hb,e⟩ | ⟨hb,e⟩
  ·obtain⟨r,e1,_,h2⟩:=r_fadd (nth 0 sw.2.1 k) (nth 0 w k) (rng_nth rs (by omega)) (rng_nth rw' hk)
   have h2:=h2 hb
   rw[e,loopP_done (r:=.inr ((0,[],()),r.2.1,())) (by
    dsimp only
    rw[lt_true hk,cnd_t,ati_d 0 hk,bnd_mk,ati_d 0 (by omega:k<sw.2.1.length),bnd_mk,bnd_mk,e1,bnd_mk,dF h2]
    rfl),bndS_r]
   exact⟨_,rfl,fun _=>h2,fun n=>(n ⟨h0,k,hk,hb⟩).elim⟩
  ·rw[e,loopP_done (r:=.inl ((sw.1+1,(List.range w.length).map fun i=>nth 0 sw.2.1 i+nth 0 w i,()),())) (by
    dsimp only
    rw[lt_false,cnd_f]
    rfl),bndS_l]
   refine⟨_,rfl,fun⟨_,k,hk,n⟩=>(hb k hk n).elim,fun _=>?_⟩
   rw[sumS_ne h0]
theorem p_bput(l:List KpD) (x:KpD) (c:Int) (most:Bool) (c0:0<=c) (hl:l.length<=1000) (hr:KRange l) (hx:In64 x.2.1):best_Put (l,x,c,most,())=some (PutS most c l x):=by
 unfold best_Put best_of
 dsimp only
 rw[bnd_mk,max0,if_neg (by omega)]
 have:=p_put most c l x hl hr hx
 unfold zAhead at this
 rw[this,bnd_mk]
 rfl
theorem r_bput(l:List KpD) (x:KpD) (c:Int) (most:Bool) (hl:l.length<=1000):q32_Put (l,x,c,most,())=some (PutS most c l x):=by
 have hle:=atS_le most x l
 have hpl:=putL_len most l x
 unfold q32_Put
 dsimp only
 rw[grow_loop _ (fun k=>if k<=atS most x l then(l.take k,false,(k:Int),()) else(l.take (atS most x l)++[x]++(l.take k).drop (atS most x l),true,(k:Int),())) l.length (if l.length<=atS most x l then(l,false,()) else(putL' most l x,true,())) _ ?_ ?_ ?_]
 ·have hj:∀ {β:Type} (K:List KpD×Unit->Option β),bnd (cnd (!(if l.length<=atS most x l then(l,false,()) else(putL' most l x,true,()):List KpD×Bool×Unit).2.1) (bnd (app 8796093022208 (if l.length<=atS most x l then(l,false,()) else(putL' most l x,true,()):List KpD×Bool×Unit).1 [x]) fun v11=>some (v11,())) (some ((if l.length<=atS most x l then(l,false,()) else(putL' most l x,true,()):List KpD×Bool×Unit).1,()))) K=K (putL' most l x,()):=fun K=>by
   by_cases h:l.length<=atS most x l
   ·rw[if_pos h]
    dsimp only
    rw[Bool.not_false,cnd_t,app_ok (by rw[List.length_singleton];omega),bnd_mk,bnd_mk]
    unfold putL'
    rw[show atS most x l=l.length by omega,List.take_length,List.drop_length,List.append_nil]
   ·rw[if_neg h]
    rfl
  rw[bnd_mk,hj]
  dsimp only
  rw[hpl]
  unfold PutS
  by_cases hc:(l.length:Int)+1<=c
  ·rw[if_pos hc,dT (by omega:((l.length+1:Nat):Int)<=c),cnd_t]
  ·rw[if_neg hc,dF (by omega:¬ ((l.length+1:Nat):Int)<=c),cnd_f,wr_id (by omega) (by omega),show((l.length+1:Nat):Int)-1=(l.length:Int) by omega,ati_d zKp (by omega)]
   have hs:sub (putL' most l x) 0 (l.length:Int)=some ((putL' most l x).take l.length):=by
    unfold sub
    rw[if_pos (by omega)]
    rfl
   rw[hs]
   rfl
 ·rw[if_pos (Nat.zero_le _)]
  rfl
 ·intro k hk
  by_cases h:k<=atS most x l
  ·rw[if_pos h]
   dsimp only
   rw[lt_true hk,cnd_t,Bool.not_false,cnd_t,ati_d zKp hk,bnd_mk,r_ahead,bnd_mk,bnd_mk]
   by_cases e:k=atS most x l
   ·have hy:=atS_yes most x l (by omega)
    rw[← e] at hy
    rw[dT hy,cnd_t,app_ok (by rw[List.length_singleton,List.length_take];omega),bnd_mk,bnd_mk]
    dsimp only
    rw[bnd_mk,app_ok (by rw[List.length_append,List.length_singleton,List.length_singleton,List.length_take];omega),bnd_mk,wr_succ hk (by omega),if_neg (by omega)]
    show some _=some _
    congr 3
    rw[← e,List.take_succ_eq_append_getElem hk,List.drop_append_of_le_length (by rw[List.length_take];omega),List.drop_eq_nil_of_le (by rw[List.length_take];omega),List.nil_append]
    simp [nth,List.getD,hk]
   ·have hn:=atS_no most x l k (by omega)
    rw[dF hn,cnd_f,bnd_mk]
    dsimp only
    rw[bnd_mk,app_ok (by rw[List.length_singleton,List.length_take];omega),bnd_mk,wr_succ hk (by omega),if_pos (by omega)]
    show some _=some _
    congr 3
    rw[List.take_succ_eq_append_getElem hk]
    simp [nth,List.getD,hk]
  ·rw[if_neg h,if_neg (by omega)]
   dsimp only
   rw[lt_true hk,cnd_t,Bool.not_true,cnd_f,bnd_mk,cnd_f,bnd_mk,ati_d zKp hk,bnd_mk]
   dsimp only
   rw[app_ok (by simp only[List.length_append,List.length_singleton,List.length_take,List.length_drop];omega),bnd_mk,wr_succ hk (by omega)]
   show some _=some _
   congr 3
   rw[List.append_assoc,List.take_succ_eq_append_getElem hk,List.drop_append_of_le_length (by rw[List.length_take];omega)]
   simp [nth,List.getD,hk]
 ·by_cases h:l.length<=atS most x l
  ·rw[if_pos h,if_pos h]
   dsimp only
   rw[lt_false,cnd_f,List.take_length]
   rfl
  ·rw[if_neg h,if_neg h]
   dsimp only
   rw[lt_false,cnd_f,List.take_length]
   rfl
def InOk(p:PlanD) (x:InD):Prop:=(x.1.length:Int)=p.2.2.1/\(x.2.1.length:Int)=p.2.1/\∀ i,i<x.1.length->¬ ((nth zRd x.1 i).1=false/\(nth zRd x.1 i).2.1≠0)
theorem rd_bad(y:RdD):reading_Check_1 (y,())=some (decide (y.1=false/\y.2.1≠0)):=by
 unfold reading_Check_1
 dsimp only
 cases y.1 with
 | true=>rw[dF (fun k:true=false/\y.2.1≠0=>Bool.noConfusion k.1)];rfl
 | false =>
  rw[Bool.not_false,cnd_t,bnd_mk]
  by_cases h:y.2.1=0
  ·rw[dT h,dF (fun k:false=false/\y.2.1≠0=>k.2 h)];rfl
  ·rw[dF h,dT (⟨rfl,h⟩:false=false/\y.2.1≠0)];rfl
theorem p_bads(l:List RdD) (hl:l.length<=1000):slices_ContainsFunc_Reading (l,(fun a4=>bnd (reading_Check_1 a4) some),())=some (decide (¬ ∀ i,i<l.length->¬ ((nth zRd l i).1=false/\(nth zRd l i).2.1≠0))):=by
 unfold slices_ContainsFunc_Reading slices_IndexFunc_Reading
 dsimp only
 rcases find_loop (ρ:=Unit ⊕ Int) (fun(s2:Int×Unit)=>cnd (decide (s2.1<(l.length:Int))) (bnd (ati l s2.1) fun v3=>bnd (bnd (reading_Check_1 (v3,())) some) fun r4=>cnd r4 (inrE (inrE (some s2.1))) (inlE (wr .i64 (s2.1+1),()))) (inrE (inlE (())))) (fun k=>((k:Int),())) l.length (fun i=>(nth zRd l i).1=false/\(nth zRd l i).2.1≠0) (0,()) rfl (fun k hk hb=>by
  dsimp only
  rw[lt_true hk,cnd_t,ati_d zRd hk,bnd_mk,rd_bad,bnd_mk,bnd_mk,dF hb,cnd_f,wr_succ hk (by omega)]
  rfl) with⟨k,hk,hb,e⟩ | ⟨hb,e⟩
 ·rw[e,loopP_done (r:=.inr (k:Int)) (by
   dsimp only
   rw[lt_true hk,cnd_t,ati_d zRd hk,bnd_mk,rd_bad,bnd_mk,bnd_mk,dT hb,cnd_t]
   rfl),bndS_r,bnd_mk]
  exact congrArg some (decide_eq_decide.2 ⟨fun _ h=>h k hk hb,fun _=>by omega⟩)
 ·rw[e,loopP_done (r:=.inl ()) (by
   dsimp only
   rw[lt_false,cnd_f]
   rfl),bndS_l,bnd_mk]
  exact congrArg some (decide_eq_decide.2 ⟨fun h=>by omega,fun h=>(h hb).elim⟩)
theorem p_rcheck(p:PlanD) (x:InD) (w:WfP p) (hl:x.1.length<=1000):reading_Check (p,x,())=some (if PlanOkD p/\InOk p x then 0 else 1):=by
 unfold reading_Check
 dsimp only
 rw[p_planD p w]
 by_cases hp:PlanOkD p
 rotate_left
 ·rw[if_neg hp,if_neg (fun k=>hp k.1)];rfl
 rw[if_pos hp,bnd_mk,dT rfl]
 by_cases h1:(x.1.length:Int)=p.2.2.1
 rotate_left
 ·rw[dF h1,if_neg (fun k=>h1 k.2.1)];rfl
 rw[dT h1]
 by_cases h2:(x.2.1.length:Int)=p.2.1
 rotate_left
 ·rw[dF h2,if_neg (fun k=>h2 k.2.2.1)];rfl
 rw[dT h2]
 simp only[Bool.not_true,Bool.not_false,cnd_t,cnd_f,bnd_mk]
 rw[p_bads x.1 hl,bnd_mk]
 by_cases h3:∀ i,i<x.1.length->¬ ((nth zRd x.1 i).1=false/\(nth zRd x.1 i).2.1≠0)
 ·rw[dF (fun k=>k h3),if_pos ⟨hp,h1,h2,h3⟩];rfl
 ·rw[dT h3,if_neg (fun k=>h3 k.2.2.2)];rfl
theorem r_rmay(p:PlanD) (x:InD) (hl:x.1.length<=1000):q35_May (p,x,())=some (decide (InOk p x)):=by
 unfold q35_May
 dsimp only
 have hc:∀ k,k<x.1.length->(bnd (cnd (!(nth zRd x.1 k).1) (some (!decide ((nth zRd x.1 k).2.1=0))) (some false)) fun j5=>some j5)=some (decide ((nth zRd x.1 k).1=false/\(nth zRd x.1 k).2.1≠0)):=fun k _=>rd_bad (nth zRd x.1 k)
 rw[all_as (∀ i,i<x.1.length->¬ ((nth zRd x.1 i).1=false/\(nth zRd x.1 i).2.1≠0)) x.1.length (fun i=>¬ ((nth zRd x.1 i).1=false/\(nth zRd x.1 i).2.1≠0)) _ (.inr false) (.inl ()) Iff.rfl]
 ·rw[bndS_ite]
  by_cases h3:∀ i,i<x.1.length->¬ ((nth zRd x.1 i).1=false/\(nth zRd x.1 i).2.1≠0)
  ·rw[if_pos h3]
   by_cases h1:(x.1.length:Int)=p.2.2.1
   ·rw[dT h1,cnd_t,bnd_mk]
    exact congrArg some (decide_eq_decide.2 ⟨fun k=>⟨h1,k,h3⟩,fun k=>k.2.1⟩)
   ·rw[dF h1]
    exact congrArg some (dec_no fun k=>h1 k.1)
  ·rw[if_neg h3]
   exact congrArg some (dec_no fun k=>h3 k.2.2)
 ·intro k hk _
  dsimp only
  have:=hc k hk
  rw[lt_true hk,cnd_t,ati_d zRd hk,bnd_mk,bnd_mk,wr_succ hk (by omega)]
  cases hb:(nth zRd x.1 k).1 with
  | true=>rw[if_pos (fun k:true=false/\_=>Bool.noConfusion k.1)];rfl
  | false =>
   rw[Bool.not_false,cnd_t,bnd_mk]
   by_cases h0:(nth zRd x.1 k).2.1=0
   ·rw[dT h0,if_pos (fun k=>k.2 h0)];rfl
   ·rw[dF h0,if_neg (fun k=>k ⟨rfl,h0⟩)];rfl
 ·intro _
  dsimp only
  rw[lt_false,cnd_f]
  rfl
theorem p_rof(x:InD) (a:Int) (h:a<(x.1.length:Int)):∃ v q,reading_Of (x,a,())=some (v,q,())/\(q=true↔Seen x.1 a)/\(Seen x.1 a->v=valR x.1 a):=by
 unfold reading_Of
 dsimp only
 by_cases h0:a<0
 ·rw[dT h0]
  exact⟨0,false,rfl,⟨fun k=>Bool.noConfusion k,fun k=>by have:=k.1;omega⟩,fun k=>by have:=k.1;omega⟩
 ·obtain⟨k,rfl⟩:∃ k:Nat,a=k:=⟨a.toNat,by omega⟩
  rw[dF h0,dF (by omega:¬ (k:Int)>=(x.1.length:Int)),ati_d zRd (by omega:k<x.1.length)]
  simp only[Bool.not_false,cnd_t,bnd_mk]
  unfold Seen valR
  rw[Int.toNat_natCast]
  cases hb:(nth zRd x.1 k).1 with
  | false=>exact⟨0,false,rfl,⟨fun k=>Bool.noConfusion k,fun k=>Bool.noConfusion k.2⟩,fun k=>Bool.noConfusion k.2⟩
  | true=>exact⟨(nth zRd x.1 k).2.1,true,rfl,⟨fun _=>⟨by omega,rfl⟩,fun _=>rfl⟩,fun _=>rfl⟩
theorem r_seen(x:InD) (a:Int) (h:a<(x.1.length:Int)):q38_seen (x,a,())=some (decide (Seen x.1 a)):=by
 unfold q38_seen Seen
 dsimp only
 by_cases h0:a>=0
 ·obtain⟨k,rfl⟩:∃ k:Nat,a=k:=⟨a.toNat,by omega⟩
  rw[dT h0,cnd_t,ati_d zRd (by omega:k<x.1.length),bnd_mk,bnd_mk,Int.toNat_natCast]
  refine congrArg some ?_
  cases(nth zRd x.1 k).1 with
  | false=>exact dec_no fun k=>Bool.noConfusion k.2
  | true=>exact dec_yes ⟨h0,rfl⟩
 ·rw[dF h0]
  exact congrArg some (dec_no fun k=>h0 k.1)
theorem seen_at(x:InD) (a:Int) (h:a<(x.1.length:Int)) (hs:Seen x.1 a):∃ v:RdD,ati x.1 a=some v/\v.2.1=valR x.1 a:=by
 obtain⟨k,rfl⟩:∃ k:Nat,a=k:=⟨a.toNat,by have:=hs.1;omega⟩
 exact⟨_,ati_d zRd (by omega),by unfold valR;rw[Int.toNat_natCast]⟩
end Go.Proofs.YtmomjjgokeffnaaGreat.F
namespace Go.Proofs.YtmomjjgokeffnaaGreat.F
open Go.VX
open Classical
abbrev TurnD:=PlanD×StateD×InD×Int×Int×List EvD×Unit
theorem p_phase(p:PlanD) (hp:PlanOkD p) (step:Int) (h0:0<=step) (h1:step<p.1):plan_Phase (p,step,())=some ((phN p.2.2.2.2.2.1 step:Nat):Int):=by
 have hn:=planD_phase hp h0 h1
 have hs:=planD_spans hp
 unfold plan_Phase phases_At slices_IndexFunc_Span
 dsimp only
 rw[grow_loop _ (fun k=>((k:Int),())) (phN p.2.2.2.2.2.1 step) (.inr ((phN p.2.2.2.2.2.1 step:Nat):Int)) _ ?_ ?_ ?_]
 ·rfl
 ·rfl
 ·intro k hk
  have:=hn.2.2.2 k hk
  dsimp only
  rw[lt_true (by omega:k<p.2.2.2.2.2.1.length),cnd_t,ati_d zSpan (by omega:k<p.2.2.2.2.2.1.length),bnd_mk,wr_succ (n:=p.2.2.2.2.2.1.length) (by omega) (by omega)]
  unfold phases_At_1
  dsimp only
  rw[dF (by omega:¬ step<(nth zSpan p.2.2.2.2.2.1 k).2.1)]
  cases decide ((nth zSpan p.2.2.2.2.2.1 k).1<=step)<;>rfl
 ·dsimp only
  rw[lt_true hn.1,cnd_t,ati_d zSpan hn.1,bnd_mk]
  unfold phases_At_1
  dsimp only
  rw[dT hn.2.1,dT hn.2.2.1]
  rfl
theorem r_phase(p:PlanD) (hp:PlanOkD p) (step:Int) (h0:0<=step) (h1:step<p.1):q38_Phase (p,step,())=some ((phN p.2.2.2.2.2.1 step:Nat):Int):=by
 have hn:=planD_phase hp h0 h1
 have hs:=planD_spans hp
 unfold q38_Phase
 dsimp only
 rw[grow_loop _ (fun k=>((k:Int),())) (phN p.2.2.2.2.2.1 step) (.inr ((phN p.2.2.2.2.2.1 step:Nat):Int)) _ ?_ ?_ ?_]
 ·rfl
 ·rfl
 ·intro k hk
  have:=hn.2.2.2 k hk
  dsimp only
  rw[lt_true (by omega:k<p.2.2.2.2.2.1.length),cnd_t,ati_d zSpan (by omega:k<p.2.2.2.2.2.1.length),bnd_mk,wr_succ (n:=p.2.2.2.2.2.1.length) (by omega) (by omega),dF (by omega:¬ step<(nth zSpan p.2.2.2.2.2.1 k).2.1)]
  rfl
 ·dsimp only
  rw[lt_true hn.1,cnd_t,ati_d zSpan hn.1,bnd_mk,dT hn.2.2.1]
  rfl
theorem p_tell(u:Unit) (k i:Int) (t:TurnD) (h:t.2.2.2.2.2.1.length<=1000):engine_turn_tell ((u,k,i,()),t,())=some ((),(t.1,t.2.1,t.2.2.1,t.2.2.2.1,t.2.2.2.2.1,t.2.2.2.2.2.1++[(t.2.2.2.1,k,i,())],()),()):=by
 unfold engine_turn_tell
 dsimp only
 rw[app_ok (by rw[List.length_singleton];omega)]
 rfl
theorem p_was(p:PlanD) (hp:PlanOkD p) (s:StateD) (x:InD) (step:Int) (ev:List EvD) (n g:Nat) (hn:n<p.2.2.2.2.2.1.length) (hg:(g:Int)<p.2.2.2.1):engine_turn_was (((),(g:Int),()),(p,s,x,step,(n:Int),ev,()),())=some (wasF p n g):=by
 have hf:=planD_frozen hp
 have hs:=planD_spans hp
 unfold engine_turn_was wasF isF
 dsimp only
 by_cases h:0<n
 ·have hk:=hf.2 (n-1) (by omega)
  rw[dT (by omega:(n:Int)>0),dT h,cnd_t,ati_pred [] h (by omega:n<p.2.2.2.2.2.2.1.length) (by omega),bnd_mk,ati_d false (by omega)]
  rfl
 ·rw[dF (by omega:¬ (n:Int)>0),dF h]
  rfl
theorem p_begins(p:PlanD) (hp:PlanOkD p) (s:StateD) (x:InD) (step:Int) (n:Nat) (hn:n<p.2.2.2.2.2.1.length) (ev:List EvD) (hl:ev.length<=500):engine_turn_begins (((),()),(p,s,x,step,(n:Int),ev,()),())=some ((),(p,s,x,step,(n:Int),ev++evB p step n,()),()):=by
 have hf:=planD_frozen hp
 have hs:=planD_spans hp
 have hG:=planD_groups hp
 have hv:=hf.2 n (by omega)
 unfold engine_turn_begins evB begN
 dsimp only
 rw[ati_d zSpan hn,bnd_mk]
 by_cases hb:(nth zSpan p.2.2.2.2.2.1 n).1=step
 rotate_left
 ·rw[dF hb,if_neg hb,List.append_nil]
  rfl
 rw[dT hb,if_pos hb,Bool.not_true,cnd_f,p_tell _ _ _ _ (by dsimp only;omega),bnd_mk]
 dsimp only
 obtain⟨ev1,he1⟩:∃ e,e=ev++[(step,(1:Int),(n:Int),())]:=⟨_,rfl⟩
 have hl1:ev1.length<=501:=by rw[he1,List.length_append,List.length_singleton];omega
 rw[← he1]
 have inner:∀ (b:Bool) (e:List EvD) (K:(TurnD×Unit)->Option (Int×TurnD×Unit ⊕ TurnD×Unit)),e.length<=600 ->
   bnd (loopP (fun(s8:Int×TurnD×Unit)=>cnd (decide (s8.1<((nth [] p.2.2.2.2.2.2.1 n).length:Int))) (bnd (bnd (ati (nth [] p.2.2.2.2.2.2.1 n) s8.1) fun v10=>bnd (engine_turn_was (((),s8.1,()),(s8.2.1,()))) fun r11=>bnd (cnd (!(decide (v10=r11))) (some (!decide (v10=b))) (some true)) fun j12=>cnd j12 (some (s8.2.1,())) (bnd (cnd v10 (bnd (engine_turn_tell (((),3,s8.1,()),(s8.2.1,()))) fun r14=>some (r14.2.1,())) (bnd (engine_turn_tell (((),2,s8.1,()),(s8.2.1,()))) fun r15=>some (r15.2.1,()))) fun j13=>some (j13.1,()))) fun j9=>inlE (wr .i64 (s8.1+1),j9.1,())) (inrE (some (s8.2.1,())))) (0,((p,s,x,step,(n:Int),e,()):TurnD),())) K
   = K ((p,s,x,step,(n:Int),e++evG (fun g=>isF p n g=b/\wasF p n g=!b) step (if b=true then 3 else 2) p.2.2.2.1.toNat,()),()):=by
  intro b e K he
  rw[grow_loop _ (fun m=>((m:Int),(p,s,x,step,(n:Int),e++evG (fun g=>isF p n g=b/\wasF p n g=!b) step (if b=true then 3 else 2) m,()),())) p.2.2.2.1.toNat ((p,s,x,step,(n:Int),e++evG (fun g=>isF p n g=b/\wasF p n g=!b) step (if b=true then 3 else 2) p.2.2.2.1.toNat,()),()) _ ?_ ?_ ?_]
  ·rfl
  ·simp only[evG,List.append_nil]
   rfl
  ·intro m hm
   have hle:=evG_len (fun g=>isF p n g=b/\wasF p n g=!b) step (if b=true then 3 else 2) m
   have hm2:m<(nth [] p.2.2.2.2.2.2.1 n).length:=by omega
   dsimp only
   rw[lt_true hm2,cnd_t,ati_d false hm2,bnd_mk,p_was p hp s x step _ n m hn (by omega),bnd_mk,p_tell _ _ _ _ (by dsimp only;rw[List.length_append];omega),p_tell _ _ _ _ (by dsimp only;rw[List.length_append];omega),wr_succ hm2 (by omega)]
   simp only[evG]
   rw[show nth false (nth [] p.2.2.2.2.2.2.1 n) m=isF p n m from rfl]
   rcases Bool.eq_false_or_eq_true (isF p n m) with hi | hi<;>rcases Bool.eq_false_or_eq_true (wasF p n m) with hw | hw<;>cases b<;>simp [hi,hw,bnd_mk,cnd_t,cnd_f,inlE,List.append_assoc]
  ·have hm2:p.2.2.2.1.toNat=(nth [] p.2.2.2.2.2.2.1 n).length:=by omega
   dsimp only
   rw[hm2,lt_false,cnd_f]
   rfl
 obtain⟨e2,he2⟩:∃ e,e=evG (fun g=>isF p n g=false/\wasF p n g=true) step 2 p.2.2.2.1.toNat:=⟨_,rfl⟩
 obtain⟨e3,he3⟩:∃ e,e=evG (fun g=>isF p n g=true/\wasF p n g=false) step 3 p.2.2.2.1.toNat:=⟨_,rfl⟩
 have hl2:e2.length<=8:=by rw[he2];have:=evG_len (fun g=>isF p n g=false/\wasF p n g=true) step 2 p.2.2.2.1.toNat;omega
 rw[grow_loop _ (fun k=>((k:Int),(p,s,x,step,(n:Int),ev1++((if 0<k then e2 else [])++(if 1<k then e3 else [])),()),())) 2 ((p,s,x,step,(n:Int),ev1++(e2++e3),()),()) _ ?_ ?_ ?_]
 ·rw[bnd_mk]
  dsimp only
  rw[← he2,← he3,he1,List.append_assoc]
 ·simp
 ·intro k hk
  dsimp only
  rw[ati_d [] (by omega:n<p.2.2.2.2.2.2.1.length)]
  rcases (by omega:k=0\/k=1) with rfl | rfl
  ·have h1:=inner false (ev1++((if 0<0 then e2 else [])++(if 1<0 then e3 else []))) (fun j7=>inlE (wr .i64 (((0:Nat):Int)+1),j7.1,())) (by simp;omega)
   refine h1.trans ?_
   rw[if_neg (by decide:¬ (false=true))]
   simp [← he2,inlE]
   rfl
  ·have h1:=inner true (ev1++((if 0<1 then e2 else [])++(if 1<1 then e3 else []))) (fun j7=>inlE (wr .i64 (((1:Nat):Int)+1),j7.1,())) (by simp;omega)
   refine h1.trans ?_
   rw[if_pos rfl]
   simp [← he3,inlE]
   rfl
 ·rfl
theorem r_begins(p:PlanD) (hp:PlanOkD p) (step:Int) (h0:0<=step) (h1:step<p.1):q38_Begins (p,step,())=some (evB p step (phN p.2.2.2.2.2.1 step)):=by
 have hn:=(planD_phase hp h0 h1).1
 have hf:=planD_frozen hp
 have hs:=planD_spans hp
 have hG:=planD_groups hp
 unfold q38_Begins evB begN
 dsimp only
 rw[r_phase p hp step h0 h1,bnd_mk]
 generalize phN p.2.2.2.2.2.1 step=n at *
 have hv:=hf.2 n (by omega)
 rw[ati_d zSpan hn,bnd_mk]
 by_cases hb:(nth zSpan p.2.2.2.2.2.1 n).1=step
 rotate_left
 ·rw[dF hb,if_neg hb]
  rfl
 rw[dT hb,if_pos hb,Bool.not_true,cnd_f,app_ok (by simp),bnd_mk]
 have hwas:∀ (m:Nat),(m:Int)<p.2.2.2.1->∀ {β:Type} (K:Bool->Option β),bnd (cnd (decide ((n:Int)>0)) (bnd (ati p.2.2.2.2.2.2.1 (wr .i64 ((n:Int)-1))) fun v8=>bnd (ati v8 (m:Int)) fun v9=>some v9) (some false)) K=K (wasF p n m):=by
  intro m hm β K
  unfold wasF isF
  by_cases h:0<n
  ·have hk:=hf.2 (n-1) (by omega)
   rw[dT (by omega:(n:Int)>0),dT h,cnd_t,ati_pred [] h (by omega:n<p.2.2.2.2.2.2.1.length) (by omega),bnd_mk,ati_d false (by omega)]
   rfl
  ·rw[dF (by omega:¬ (n:Int)>0),dF h]
   rfl
 have inner:∀ (b:Bool) (kd:Int) (e:List EvD) (K:(List EvD×Unit)->Option (List EvD×Int×Unit ⊕ List EvD×Unit)),e.length<=600->kd=(if b=true then 3 else 2) ->
   bnd (loopP (fun(s7:List EvD×Int×Unit)=>cnd (decide (s7.2.1<p.2.2.2.1)) (bnd (cnd (decide ((n:Int)>0)) (bnd (ati p.2.2.2.2.2.2.1 (wr .i64 ((n:Int)-1))) fun v8=>bnd (ati v8 s7.2.1) fun v9=>some v9) (some false)) fun j10=>bnd (ati p.2.2.2.2.2.2.1 (n:Int)) fun v11=>bnd (ati v11 s7.2.1) fun v12=>bnd (cnd (!decide (v12=j10)) (some (decide (j10=decide (kd=2)))) (some false)) fun j13=>bnd (cnd j13 (bnd (app 5864062014805 s7.1 [(step,kd,s7.2.1,())]) fun v15=>some (v15,())) (some (s7.1,()))) fun j14=>inlE (j14.1,wr .i64 (s7.2.1+1),())) (inrE (some (s7.1,())))) (e,0,())) K
   = K (e++evG (fun g=>isF p n g=b/\wasF p n g=!b) step kd p.2.2.2.1.toNat,()):=by
  intro b kd e K he hkd
  rw[grow_loop _ (fun m=>(e++evG (fun g=>isF p n g=b/\wasF p n g=!b) step kd m,(m:Int),())) p.2.2.2.1.toNat (e++evG (fun g=>isF p n g=b/\wasF p n g=!b) step kd p.2.2.2.1.toNat,()) _ ?_ ?_ ?_]
  ·rfl
  ·simp only[evG,List.append_nil]
   rfl
  ·intro m hm
   have hle:=evG_len (fun g=>isF p n g=b/\wasF p n g=!b) step kd m
   have hm2:m<(nth [] p.2.2.2.2.2.2.1 n).length:=by omega
   dsimp only
   rw[dT (by omega:(m:Int)<p.2.2.2.1),cnd_t,hwas m (by omega),ati_d [] (by omega:n<p.2.2.2.2.2.2.1.length),bnd_mk,ati_d false hm2,bnd_mk,app_ok (by rw[List.length_append,List.length_singleton];omega),wr_succ hm2 (by omega)]
   simp only[evG]
   rw[show nth false (nth [] p.2.2.2.2.2.2.1 n) m=isF p n m from rfl]
   have hk2:decide (kd=2)=!b:=by rw[hkd];cases b<;>rfl
   rw[hk2]
   rcases Bool.eq_false_or_eq_true (isF p n m) with hi | hi<;>rcases Bool.eq_false_or_eq_true (wasF p n m) with hw | hw<;>cases b<;>simp [hi,hw,bnd_mk,cnd_t,cnd_f,inlE,List.append_assoc]
  ·dsimp only
   rw[dF (by omega),cnd_f]
   rfl
 obtain⟨e2,he2⟩:∃ e,e=evG (fun g=>isF p n g=false/\wasF p n g=true) step 2 p.2.2.2.1.toNat:=⟨_,rfl⟩
 obtain⟨e3,he3⟩:∃ e,e=evG (fun g=>isF p n g=true/\wasF p n g=false) step 3 p.2.2.2.1.toNat:=⟨_,rfl⟩
 have hl2:e2.length<=8:=by rw[he2];have:=evG_len (fun g=>isF p n g=false/\wasF p n g=true) step 2 p.2.2.2.1.toNat;omega
 rw[List.nil_append,grow_loop _ (fun k=>([(step,(1:Int),(n:Int),())]++((if 0<k then e2 else [])++(if 1<k then e3 else [])),(2:Int)+(k:Int),())) 2 ([(step,(1:Int),(n:Int),())]++(e2++e3),()) _ ?_ ?_ ?_]
 ·rw[bnd_mk]
  dsimp only
  rw[← he2,← he3]
 ·rfl
 ·intro k hk
  dsimp only
  rcases (by omega:k=0\/k=1) with rfl | rfl
  ·have h1:=inner false 2 ([(step,(1:Int),(n:Int),())]++((if 0<0 then e2 else [])++(if 1<0 then e3 else []))) (fun j6=>inlE (j6.1,wr .i64 ((2:Int)+1),())) (by simp) rfl
   refine h1.trans ?_
   simp [← he2,inlE]
   rfl
  ·have h1:=inner true 3 ([(step,(1:Int),(n:Int),())]++((if 0<1 then e2 else [])++(if 1<1 then e3 else []))) (fun j6=>inlE (j6.1,wr .i64 ((3:Int)+1),())) (by simp;omega) rfl
   refine h1.trans ?_
   simp [← he3,inlE]
   rfl
 ·rfl
end Go.Proofs.YtmomjjgokeffnaaGreat.F
namespace Go.Proofs.YtmomjjgokeffnaaGreat.F
open Go.VX
open Classical
def misL(l:List RdD):Nat->List Int
 | 0=>[]
 | k+1=>misL l k++if(nth zRd l k).1=false then [(k:Int)] else []
theorem misL_len(l:List RdD):∀ k,(misL l k).length<=k
 | 0=>Nat.le_refl _
 | k+1=>by
  have:=misL_len l k
  simp only[misL,List.length_append]
  split<;>simp<;>omega
theorem p_mis(x:InD) (hl:x.1.length<=1000):reading_Missing (x,())=some (misL x.1 x.1.length):=by
 unfold reading_Missing
 dsimp only
 rw[grow_loop _ (fun k=>(misL x.1 k,(k:Int),())) x.1.length (misL x.1 x.1.length,()) _ ?_ ?_ ?_]
 ·rfl
 ·rfl
 ·intro k hk
  have:=misL_len x.1 k
  dsimp only
  rw[lt_true hk,cnd_t,ati_d zRd hk,bnd_mk,app_ok (by rw[List.length_singleton];omega),wr_succ hk (by omega)]
  simp only[misL]
  cases(nth zRd x.1 k).1<;>simp [bnd_mk,cnd_t,cnd_f,inlE]
 ·dsimp only
  rw[lt_false,cnd_f]
  rfl
theorem p_cont3(a b c v:Int):slices_Contains_int_int ([a,b,c],v,())=some (decide (a=v\/b=v\/c=v)):=by
 unfold slices_Contains_int_int slices_Index_int_int
 dsimp only
 rcases find_loop (ρ:=Unit ⊕ Int) (fun(s2:Int×Unit)=>cnd (decide (s2.1<([a,b,c].length:Int))) (bnd (ati [a,b,c] s2.1) fun v3=>cnd (decide (v=v3)) (inrE (inrE (some s2.1))) (inlE (wr .i64 (s2.1+1),()))) (inrE (inlE (())))) (fun k=>((k:Int),())) 3 (fun k=>v=nth 0 [a,b,c] k) (0,()) rfl (fun k hk hb=>by
  dsimp only
  rw[lt_true (show k<[a,b,c].length from hk),cnd_t,ati_d 0 (show k<[a,b,c].length from hk),bnd_mk,dF hb,cnd_f,wr_succ hk (by omega)]
  rfl) with⟨k,hk,hb,e⟩ | ⟨hb,e⟩
 ·rw[e,loopP_done (r:=.inr (k:Int)) (by
   dsimp only
   rw[lt_true (show k<[a,b,c].length from hk),cnd_t,ati_d 0 (show k<[a,b,c].length from hk),bnd_mk,dT hb,cnd_t]
   rfl),bndS_r,bnd_mk,dT (by omega)]
  refine congrArg some (dec_yes ?_)
  rcases (by omega:k=0\/k=1\/k=2) with rfl | rfl | rfl
  ·exact .inl hb.symm
  ·exact .inr (.inl hb.symm)
  ·exact .inr (.inr hb.symm)
 ·rw[e,loopP_done (r:=.inl ()) rfl,bndS_l,bnd_mk,dF (by omega)]
  refine congrArg some (dec_no ?_)
  rintro(h | h | h)
  ·exact hb 0 (by omega) h.symm
  ·exact hb 1 (by omega) h.symm
  ·exact hb 2 (by omega) h.symm
noncomputable def tellM(a b c step:Int) (l:List Int):List EvD:=(l.filter fun v=>decide (a=v\/b=v\/c=v)).map fun v=>(step,6,v,())
theorem tellM_app(a b c step:Int) (l m:List Int):tellM a b c step (l++m)=tellM a b c step l++tellM a b c step m:=by
 unfold tellM
 rw[List.filter_append,List.map_append]
theorem tellM_one(a b c step v:Int):tellM a b c step [v]=if a=v\/b=v\/c=v then [(step,6,v,())] else []:=by
 unfold tellM
 by_cases h:a=v\/b=v\/c=v
 ·rw[if_pos h];simp [h]
 ·rw[if_neg h];simp [h]
theorem tellM_len(a b c step:Int) (l:List Int):(tellM a b c step l).length<=l.length:=by
 unfold tellM
 rw[List.length_map]
 exact List.length_filter_le _ _
theorem tellM_mis(p:PlanD) (x:InD) (step:Int):∀ k,tellM p.2.2.2.2.2.2.2.2.2.2.2.2.2.2.1 p.2.2.2.2.2.2.2.2.2.2.2.2.2.1 p.2.2.2.2.2.2.2.2.2.2.2.2.1 step (misL x.1 k)=evG (missN p x) step 6 k
 | 0=>rfl
 | k+1=>by
  simp only[misL,evG]
  rw[tellM_app,tellM_mis p x step k]
  congr 1
  by_cases h:(nth zRd x.1 k).1=false
  ·rw[if_pos h,tellM_one]
   apply if_same
   unfold missN
   exact⟨fun k=>⟨k,h⟩,fun k=>k.1⟩
  ·rw[if_neg h,if_neg (fun k=>h k.2)]
   rfl
theorem p_missing(p:PlanD) (s:StateD) (x:InD) (step:Int) (n:Int) (ev:List EvD) (hl:x.1.length<=100) (he:ev.length<=500):engine_turn_missing (((),()),(p,s,x,step,n,ev,()),())=some ((),(p,s,x,step,n,ev++evG (missN p x) step 6 x.1.length,()),()):=by
 have hm:=misL_len x.1 x.1.length
 unfold engine_turn_missing
 dsimp only
 rw[p_mis x (by omega),bnd_mk,← tellM_mis]
 generalize misL x.1 x.1.length=r at *
 rw[grow_loop _ (fun k=>((k:Int),(p,s,x,step,n,ev++tellM p.2.2.2.2.2.2.2.2.2.2.2.2.2.2.1 p.2.2.2.2.2.2.2.2.2.2.2.2.2.1 p.2.2.2.2.2.2.2.2.2.2.2.2.1 step (r.take k),()),())) r.length ((p,s,x,step,n,ev++tellM p.2.2.2.2.2.2.2.2.2.2.2.2.2.2.1 p.2.2.2.2.2.2.2.2.2.2.2.2.2.1 p.2.2.2.2.2.2.2.2.2.2.2.2.1 step r,()),()) _ ?_ ?_ ?_]
 ·rfl
 ·simp [tellM]
 ·intro k hk
  have hle:=tellM_len p.2.2.2.2.2.2.2.2.2.2.2.2.2.2.1 p.2.2.2.2.2.2.2.2.2.2.2.2.2.1 p.2.2.2.2.2.2.2.2.2.2.2.2.1 step (r.take k)
  rw[List.length_take] at hle
  dsimp only
  rw[lt_true hk,cnd_t,ati_d 0 hk,bnd_mk,p_cont3,bnd_mk,p_tell _ _ _ _ (by dsimp only;rw[List.length_append];omega),wr_succ hk (by omega),List.take_succ_eq_append_getElem hk,tellM_app,show r[k]=nth 0 r k by simp [nth,List.getD,hk],tellM_one]
  by_cases h:p.2.2.2.2.2.2.2.2.2.2.2.2.2.2.1=nth 0 r k\/p.2.2.2.2.2.2.2.2.2.2.2.2.2.1=nth 0 r k\/p.2.2.2.2.2.2.2.2.2.2.2.2.1=nth 0 r k
  ·rw[dT h,if_pos h]
   simp [bnd_mk,cnd_t,inlE,List.append_assoc]
  ·rw[dF h,if_neg h]
   simp [bnd_mk,cnd_f,inlE]
 ·dsimp only
  rw[lt_false,cnd_f,List.take_length]
  rfl
structure InE (s:StateD) (x:InD):Prop where
 sb:In64 s.2.2.2.1.2.1
 cb:In64 s.2.2.2.2.1.1.2.1
 em:Rng s.2.2.2.2.2.2.1
 sm:Rng s.2.2.2.2.2.2.2.1.2.1
 kr:KRange s.2.2.2.2.2.1
 xr:∀ y∈x.1,In64 y.2.1
 xw:Rng x.2.1
theorem valR_in{x:InD} (h:∀ y∈x.1,In64 y.2.1) {a:Int} (ha:a<(x.1.length:Int)) (hs:Seen x.1 a):In64 (valR x.1 a):=by
 unfold valR
 exact h _ (nth_mem (by have:=hs.1;omega))
theorem p_keeps(p:PlanD) (st stt en:Int) (sw:WatchD) (ct:CutSD) (kp:List KpD) (em:List Int) (sm:SumD) (x:InD) (n:Int) (ev:List EvD) (v:Int) (he:ev.length<=500) (c0:0<=p.2.2.2.2.2.2.2.2.2.2.1.2.2.2.1) (hl:kp.length<=100) (hr:KRange kp) (hv:In64 v) :
  engine_turn_keeps (((),v,()),(p,(st,stt,en,sw,ct,kp,em,sm,()),x,st,n,ev,()),())=some ((),(p,(st,stt,en,sw,ct,(PutS p.2.2.2.2.2.2.2.2.2.2.1.2.2.1 p.2.2.2.2.2.2.2.2.2.2.1.2.2.2.1 kp (st,v,())).1,em,sm,()),x,st,n,ev++((if ¬ ((PutS p.2.2.2.2.2.2.2.2.2.2.1.2.2.1 p.2.2.2.2.2.2.2.2.2.2.1.2.2.2.1 kp (st,v,())).2.2.1=true/\(PutS p.2.2.2.2.2.2.2.2.2.2.1.2.2.1 p.2.2.2.2.2.2.2.2.2.2.1.2.2.2.1 kp (st,v,())).2.1.1=st) then [(st,7,st,())] else [])++(if(PutS p.2.2.2.2.2.2.2.2.2.2.1.2.2.1 p.2.2.2.2.2.2.2.2.2.2.1.2.2.2.1 kp (st,v,())).2.2.1=true/\(PutS p.2.2.2.2.2.2.2.2.2.2.1.2.2.1 p.2.2.2.2.2.2.2.2.2.2.1.2.2.2.1 kp (st,v,())).2.1.1≠st then [(st,8,(PutS p.2.2.2.2.2.2.2.2.2.2.1.2.2.1 p.2.2.2.2.2.2.2.2.2.2.1.2.2.2.1 kp (st,v,())).2.1.1,())] else [])),()),()):=by
 unfold engine_turn_keeps
 dsimp only
 rw[p_bput kp (st,v,()) p.2.2.2.2.2.2.2.2.2.2.1.2.2.2.1 p.2.2.2.2.2.2.2.2.2.2.1.2.2.1 c0 (by omega) hr hv,bnd_mk]
 generalize PutS p.2.2.2.2.2.2.2.2.2.2.1.2.2.1 p.2.2.2.2.2.2.2.2.2.2.1.2.2.2.1 kp (st,v,())=r
 obtain⟨l,⟨g,gv,_⟩,is,_⟩:=r
 dsimp only
 rw[p_tell _ _ _ _ (by dsimp only;omega),bnd_mk,p_tell _ _ _ _ (by dsimp only;rw[List.length_append,List.length_singleton];omega)]
 cases is with
 | false =>
  rw[if_pos (fun k:false=true/\g=st=>Bool.noConfusion k.1),if_neg (fun k:false=true/\g≠st=>Bool.noConfusion k.1),List.append_nil]
  rfl
 | true =>
  by_cases h:g=st
  ·rw[if_neg (fun k:¬ (true=true/\g=st)=>k ⟨rfl,h⟩),if_neg (fun k:true=true/\g≠st=>k.2 h),dT h,List.append_nil,List.append_nil]
   rfl
  ·rw[if_pos (fun k:true=true/\g=st=>h k.2),if_pos (show true=true/\g≠st from⟨rfl,h⟩),dF h,← List.append_assoc]
   rfl
theorem p_cuts(p:PlanD) (st stt en:Int) (sw:WatchD) (ct:CutSD) (kp:List KpD) (em:List Int) (sm:SumD) (x:InD) (n:Int) (ev:List EvD) (v:Int) (he:ev.length<=600) (hv:In64 v) (hw:In64 ct.1.2.1) (hd:In64 p.2.2.2.2.2.2.2.2.2.1.2.2.2.2.2.2.2.1) (hr:In64 ct.2.1) (hs:In64 ct.2.2.1) (hf:In64 p.2.2.2.2.2.2.2.2.2.1.2.2.2.1) :
  engine_turn_cuts (((),v,()),(p,(st,stt,en,sw,ct,kp,em,sm,()),x,st,n,ev,()),())=some ((),(p,(st,stt,en,sw,(TakeC ct v p.2.2.2.2.2.2.2.2.2.1).1,kp,em,sm,()),x,st,n,ev++(if(TakeC ct v p.2.2.2.2.2.2.2.2.2.1).2=true then [(st,9,0,())] else []),()),()):=by
 unfold engine_turn_cuts
 dsimp only
 rw[p_ptake ct v p.2.2.2.2.2.2.2.2.2.1 hv hw hd hr hs hf,bnd_mk]
 generalize TakeC ct v p.2.2.2.2.2.2.2.2.2.1=r
 obtain⟨c,is⟩:=r
 dsimp only
 rw[p_tell _ _ _ _ (by dsimp only;omega)]
 cases is with
 | true=>rw[if_pos rfl];rfl
 | false=>rw[if_neg Bool.false_ne_true,List.append_nil];rfl
theorem p_stops(p:PlanD) (st stt en:Int) (sw:WatchD) (ct:CutSD) (kp:List KpD) (em:List Int) (sm:SumD) (x:InD) (n:Int) (ev:List EvD) (v:Int) (he:ev.length<=700) (hv:In64 v) (hw:In64 sw.2.1) (hd:In64 p.2.2.2.2.2.2.2.2.1.2.2.2.2.1) (hp1:1<=p.2.2.2.2.2.2.2.2.1.2.2.2.1) :
  engine_turn_stops (((),v,()),(p,(st,stt,en,sw,ct,kp,em,sm,()),x,st,n,ev,()),())=some ((),(p,(st,if p.2.2.2.2.2.2.2.2.1.2.2.2.1<=(TakeW sw v (p.2.2.2.2.2.2.2.2.1.2.2.1,p.2.2.2.2.2.2.2.2.1.2.2.2.2.1,p.2.2.2.2.2.2.2.2.1.2.2.2.2.2.1,())).2.2.1 then 2 else stt,if p.2.2.2.2.2.2.2.2.1.2.2.2.1<=(TakeW sw v (p.2.2.2.2.2.2.2.2.1.2.2.1,p.2.2.2.2.2.2.2.2.1.2.2.2.2.1,p.2.2.2.2.2.2.2.2.1.2.2.2.2.2.1,())).2.2.1 then st else en,TakeW sw v (p.2.2.2.2.2.2.2.2.1.2.2.1,p.2.2.2.2.2.2.2.2.1.2.2.2.2.1,p.2.2.2.2.2.2.2.2.1.2.2.2.2.2.1,()),ct,kp,em,sm,()),x,st,n,ev++(if p.2.2.2.2.2.2.2.2.1.2.2.2.1<=(TakeW sw v (p.2.2.2.2.2.2.2.2.1.2.2.1,p.2.2.2.2.2.2.2.2.1.2.2.2.2.1,p.2.2.2.2.2.2.2.2.1.2.2.2.2.2.1,())).2.2.1 then [(st,10,0,())] else []),()),()):=by
 unfold engine_turn_stops
 dsimp only
 rw[p_etake sw v (p.2.2.2.2.2.2.2.2.1.2.2.1,p.2.2.2.2.2.2.2.2.1.2.2.2.2.1,p.2.2.2.2.2.2.2.2.1.2.2.2.2.2.1,()) hv hw hd,bnd_mk,p_eout,bnd_mk]
 generalize TakeW sw v (p.2.2.2.2.2.2.2.2.1.2.2.1,p.2.2.2.2.2.2.2.2.1.2.2.2.2.1,p.2.2.2.2.2.2.2.2.1.2.2.2.2.2.1,())=r
 rw[p_tell _ _ _ _ (by dsimp only;omega)]
 by_cases h:p.2.2.2.2.2.2.2.2.1.2.2.2.1<=r.2.2.1
 ·rw[dT ⟨hp1,h⟩,if_pos h,if_pos h,if_pos h]
  rfl
 ·rw[dF (fun k=>h k.2),if_neg h,if_neg h,if_neg h,List.append_nil]
  rfl
end Go.Proofs.YtmomjjgokeffnaaGreat.F
namespace Go.Proofs.YtmomjjgokeffnaaGreat.F
open Go.VX
open Classical
structure StepH (p:PlanD) (s:StateD) (x:InD):Prop where
 hp:PlanOkD p
 hs:StateOkD p s
 hg:s.2.1=0
 hx:InOk p x
 hi:InE s x
section
variable {p:PlanD} {s:StateD} {x:InD} (H:StepH p s x)
include H
theorem stepH_range:0<=s.1/\s.1<p.1/\p.1<=1000000:=by
 have h1:=H.hs.1
 have h2:=planD_head H.hp
 have h3:=H.hg
 rcases h1 with k | k
 ·exact⟨k.2.1,k.2.2.1,h2.2⟩
 ·rcases k.2 with k | k | k<;>(have:=k.1;rw[h3] at this;exact absurd this (by decide))
theorem stepH_len:x.1.length<=4/\x.2.1.length<=16/\s.2.2.2.2.2.1.length<=16:=by
 have h1:HeadOk _ _ _ _ _:=H.hp.1
 unfold HeadOk at h1
 have h2:=H.hx
 have h3:=stateD_len H.hp H.hs
 exact⟨by have:=h2.1;omega,by have:=h2.2.1;omega,h3.1⟩
theorem stepH_on:-1<=p.2.2.2.2.2.2.2.2.2.2.2.2.1/\p.2.2.2.2.2.2.2.2.2.2.2.2.1<(x.1.length:Int)/\-1<=p.2.2.2.2.2.2.2.2.2.2.2.2.2.1/\p.2.2.2.2.2.2.2.2.2.2.2.2.2.1<(x.1.length:Int)/\-1<=p.2.2.2.2.2.2.2.2.2.2.2.2.2.2.1/\p.2.2.2.2.2.2.2.2.2.2.2.2.2.2.1<(x.1.length:Int):=by
 obtain⟨_,_,_,_,h1,h2,h3,_⟩:=H.hp
 have h4:=H.hx.1
 unfold StopOk SeenOk at h1
 unfold CutOk SeenOk at h2
 unfold KeepOk SeenOk at h3
 refine⟨?_,?_,?_,?_,?_,?_⟩<;>omega
theorem stepH_keep(h:Seen x.1 p.2.2.2.2.2.2.2.2.2.2.2.2.2.2.1):0<=p.2.2.2.2.2.2.2.2.2.2.1.2.2.2.1:=by
 obtain⟨_,_,_,_,_,_,h3,_⟩:=H.hp
 have:=h.1
 unfold KeepOk at h3
 omega
theorem stepH_cut(h:Seen x.1 p.2.2.2.2.2.2.2.2.2.2.2.2.2.1):In64 p.2.2.2.2.2.2.2.2.2.1.2.2.2.2.2.2.2.1/\In64 p.2.2.2.2.2.2.2.2.2.1.2.2.2.1/\In64 s.2.2.2.2.1.2.1/\In64 s.2.2.2.2.1.2.2.1:=by
 obtain⟨_,_,_,_,_,h3,_,_⟩:=H.hp
 have h4:=H.hs.2.2.1
 have:=h.1
 unfold CutOk at h3
 unfold CutSt CutStOk at h4
 unfold In64
 refine⟨?_,?_,?_,?_⟩<;>omega
theorem stepH_stop(h:Seen x.1 p.2.2.2.2.2.2.2.2.2.2.2.2.1):In64 p.2.2.2.2.2.2.2.2.1.2.2.2.2.1/\1<=p.2.2.2.2.2.2.2.2.1.2.2.2.1:=by
 obtain⟨_,_,_,_,h3,_⟩:=H.hp
 have:=h.1
 unfold StopOk at h3
 unfold In64
 refine⟨?_,?_⟩<;>omega
theorem evX_len:(evM p s x).length<=4:=by
 have:=evM_len p s x
 have:=stepH_len H
 omega
omit H in
theorem if_and2{α:Type} {A B:Prop} [Decidable B] {_:Decidable (A/\B)} (h:A) (a b:α):(if A/\B then a else b)=if B then a else b:=if_same ⟨fun k=>k.2,fun k=>⟨h,k⟩⟩
theorem p_look(em:List Int) (sm:SumD) (n:Int) (ev:List EvD) (he:ev.length<=100) (hk:LkN p s) :
  engine_turn_look (((),()),(p,(s.1,s.2.1,s.2.2.1,s.2.2.2.1,s.2.2.2.2.1,s.2.2.2.2.2.1,em,sm,()),x,s.1,n,ev,()),())=some ((),(p,(s.1,if OutN p s x then 2 else s.2.1,if OutN p s x then s.1 else s.2.2.1,stopN p s x,cutN p s x,keptN p s x,em,sm,()),x,s.1,n,ev++(evM p s x++(evK p s x++(evD p s x++(evC p s x++evS p s x)))),()),()):=by
 have hl:=stepH_len H
 have ho:=stepH_on H
 have hM:evG (missN p x) s.1 6 x.1.length=evM p s x:=by unfold evM;rw[if_pos hk]
 have hml:=evX_len H
 have hkl:(evK p s x).length<=1:=len_if1 _ _
 have hdl:(evD p s x).length<=1:=len_if1 _ _
 have hcl:(evC p s x).length<=1:=len_if1 _ _
 unfold engine_turn_look
 dsimp only
 rw[p_missing p _ x s.1 n ev (by omega) (by omega),bnd_mk,hM]
 dsimp only
 obtain⟨v3,q3,e3,f3,g3⟩:=p_rof x p.2.2.2.2.2.2.2.2.2.2.2.2.2.2.1 ho.2.2.2.2.2
 obtain⟨v2,q2,e2,f2,g2⟩:=p_rof x p.2.2.2.2.2.2.2.2.2.2.2.2.2.1 ho.2.2.2.1
 obtain⟨v1,q1,e1,f1,g1⟩:=p_rof x p.2.2.2.2.2.2.2.2.2.2.2.2.1 ho.2.1
 rw[show reading_Of ((x.1,x.2.1,()),p.2.2.2.2.2.2.2.2.2.2.2.2.2.2.1,())=_ from e3,bnd_mk]
 dsimp only
 have s3:∀ {β:Type} (K:TurnD×Unit->Option β),bnd (cnd q3 (bnd (engine_turn_keeps (((),v3,()),(p,(s.1,s.2.1,s.2.2.1,s.2.2.2.1,s.2.2.2.2.1,s.2.2.2.2.2.1,em,sm,()),x,s.1,n,ev++evM p s x,()),())) fun r4=>some (r4.2.1,())) (some ((p,(s.1,s.2.1,s.2.2.1,s.2.2.2.1,s.2.2.2.2.1,s.2.2.2.2.2.1,em,sm,()),x,s.1,n,ev++evM p s x,()),()))) K=K ((p,(s.1,s.2.1,s.2.2.1,s.2.2.2.1,s.2.2.2.2.1,keptN p s x,em,sm,()),x,s.1,n,ev++evM p s x++(evK p s x++evD p s x),()),()):=by
  intro β K
  unfold keptN evK evD
  by_cases h:Seen x.1 p.2.2.2.2.2.2.2.2.2.2.2.2.2.2.1
  ·have hK:KeN p s x:=⟨hk,h⟩
   rw[f3.2 h,cnd_t,g3 h,p_keeps p s.1 s.2.1 s.2.2.1 s.2.2.2.1 s.2.2.2.2.1 s.2.2.2.2.2.1 em sm x n _ _ (by rw[List.length_append];omega) (stepH_keep H h) (by omega) H.hi.kr (valR_in H.hi.xr ho.2.2.2.2.2 h),bnd_mk,bnd_mk,if_pos hK,if_and2 hK,if_and2 hK]
   rfl
  ·have hK:¬ KeN p s x:=fun k=>h k.2
   rw[show q3=false from by cases q3 with | false=>rfl | true=>exact(h (f3.1 rfl)).elim,cnd_f,if_neg hK,if_neg (fun k=>hK k.1),if_neg (fun k=>hK k.1),List.append_nil,List.append_nil]
   rfl
 rw[show engine_turn_keeps (((),v3,()),(p,(s.1,s.2.1,s.2.2.1,s.2.2.2.1,s.2.2.2.2.1,s.2.2.2.2.2.1,em,sm,()),x,s.1,n,ev++evM p s x,()),())=_ from rfl]
 refine(s3 _).trans ?_
 dsimp only
 rw[show reading_Of ((x.1,x.2.1,()),p.2.2.2.2.2.2.2.2.2.2.2.2.2.1,())=_ from e2,bnd_mk]
 dsimp only
 obtain⟨eva,heva⟩:∃ e,e=ev++evM p s x++(evK p s x++evD p s x):=⟨_,rfl⟩
 have hla:eva.length<=120:=by rw[heva,List.length_append,List.length_append,List.length_append];omega
 rw[← heva]
 have s2:∀ {β:Type} (K:TurnD×Unit->Option β),bnd (cnd q2 (bnd (engine_turn_cuts (((),v2,()),(p,(s.1,s.2.1,s.2.2.1,s.2.2.2.1,s.2.2.2.2.1,keptN p s x,em,sm,()),x,s.1,n,eva,()),())) fun r4=>some (r4.2.1,())) (some ((p,(s.1,s.2.1,s.2.2.1,s.2.2.2.1,s.2.2.2.2.1,keptN p s x,em,sm,()),x,s.1,n,eva,()),()))) K=K ((p,(s.1,s.2.1,s.2.2.1,s.2.2.2.1,cutN p s x,keptN p s x,em,sm,()),x,s.1,n,eva++evC p s x,()),()):=by
  intro β K
  unfold cutN evC cutR
  by_cases h:Seen x.1 p.2.2.2.2.2.2.2.2.2.2.2.2.2.1
  ·have hC:CuN p s x:=⟨hk,h⟩
   obtain⟨c1,c2,c3,c4⟩:=stepH_cut H h
   rw[f2.2 h,cnd_t,g2 h,p_cuts p s.1 s.2.1 s.2.2.1 s.2.2.2.1 s.2.2.2.2.1 (keptN p s x) em sm x n _ _ (by omega) (valR_in H.hi.xr ho.2.2.2.1 h) H.hi.cb c1 c3 c4 c2,bnd_mk,bnd_mk,if_pos hC,if_and2 hC]
  ·have hC:¬ CuN p s x:=fun k=>h k.2
   rw[show q2=false from by cases q2 with | false=>rfl | true=>exact(h (f2.1 rfl)).elim,cnd_f,if_neg hC,if_neg (fun k=>hC k.1),List.append_nil]
   rfl
 refine(s2 _).trans ?_
 dsimp only
 rw[show reading_Of ((x.1,x.2.1,()),p.2.2.2.2.2.2.2.2.2.2.2.2.1,())=_ from e1,bnd_mk]
 dsimp only
 obtain⟨evb,hevb⟩:∃ e,e=eva++evC p s x:=⟨_,rfl⟩
 have hlb:evb.length<=130:=by rw[hevb,List.length_append];omega
 rw[← hevb]
 have s1:∀ {β:Type} (K:TurnD×Unit->Option β),bnd (cnd q1 (bnd (engine_turn_stops (((),v1,()),(p,(s.1,s.2.1,s.2.2.1,s.2.2.2.1,cutN p s x,keptN p s x,em,sm,()),x,s.1,n,evb,()),())) fun r4=>some (r4.2.1,())) (some ((p,(s.1,s.2.1,s.2.2.1,s.2.2.2.1,cutN p s x,keptN p s x,em,sm,()),x,s.1,n,evb,()),()))) K=K ((p,(s.1,if OutN p s x then 2 else s.2.1,if OutN p s x then s.1 else s.2.2.1,stopN p s x,cutN p s x,keptN p s x,em,sm,()),x,s.1,n,evb++evS p s x,()),()):=by
  intro β K
  unfold evS OutN stopN
  by_cases h:Seen x.1 p.2.2.2.2.2.2.2.2.2.2.2.2.1
  ·have hS:StN p s x:=⟨hk,h⟩
   obtain⟨c1,c2⟩:=stepH_stop H h
   rw[f1.2 h,cnd_t,g1 h,p_stops p s.1 s.2.1 s.2.2.1 s.2.2.2.1 (cutN p s x) (keptN p s x) em sm x n _ _ (by omega) (valR_in H.hi.xr ho.2.1 h) H.hi.sb c1 c2,bnd_mk,bnd_mk,if_pos hS,if_and2 hS,if_and2 hS,if_and2 hS]
  ·have hS:¬ StN p s x:=fun k=>h k.2
   rw[show q1=false from by cases q1 with | false=>rfl | true=>exact(h (f1.1 rfl)).elim,cnd_f,if_neg hS,if_neg (fun k=>hS k.1),if_neg (fun k=>hS k.1),if_neg (fun k=>hS k.1),List.append_nil]
   rfl
 refine(s1 _).trans ?_
 rw[hevb,heva]
 simp only[List.append_assoc]
end
end Go.Proofs.YtmomjjgokeffnaaGreat.F
namespace Go.Proofs.YtmomjjgokeffnaaGreat.F
open Go.VX
open Classical
theorem planD_avg{p:PlanD} (hp:PlanOkD p):0<=p.2.2.2.2.2.2.2.2.2.2.2.2.2.2.2.1/\p.2.2.2.2.2.2.2.2.2.2.2.2.2.2.2.1<=1000000/\0<=p.2.2.2.2.2.2.2.2.2.2.2.2.2.2.2.2.1/\p.2.2.2.2.2.2.2.2.2.2.2.2.2.2.2.2.1<=1099511627776:=by
 have h1:=planD_head hp
 obtain⟨_,_,_,_,_,_,_,h⟩:=hp
 unfold AvgOk at h
 omega
theorem planD_ema{p:PlanD} (hp:PlanOkD p) (h:p.2.2.2.2.2.2.2.2.2.2.2.1.1=true):0<=p.2.2.2.2.2.2.2.2.2.2.2.1.2.1/\p.2.2.2.2.2.2.2.2.2.2.2.1.2.1<=4294967296:=by
 obtain⟨_,_,_,_,_,_,_,hh⟩:=hp
 unfold AvgOk at hh
 rcases hh.1 with k | k
 ·have e:=(eqT_iff (.pr .bool (.pr (.int .i64) .unit)) rfl _ _).1 k
  rw[e] at h
  exact Bool.noConfusion h
 ·exact⟨k.2.1,k.2.2⟩
theorem planD_eval{p:PlanD} (hp:PlanOkD p):0<=p.2.2.2.2.1/\p.2.2.2.2.1<=1000000:=by
 have h:HeadOk _ _ _ _ _:=hp.1
 unfold HeadOk at h
 omega
section
variable {p:PlanD} {s:StateD} {x:InD} (H:StepH p s x)
include H
theorem p_summed(s':StateD) (n:Int) (ev:List EvD):engine_turn_summed (((),()),(p,s',x,s.1,n,ev,()),())=some (decide (SwN p s)):=by
 have hr:=stepH_range H
 have ha:=planD_avg H.hp
 unfold engine_turn_summed SwN SwaP
 dsimp only
 by_cases k1:p.2.2.2.2.2.2.2.2.2.2.2.2.2.2.2.2.1>0
 ·rw[dT k1,cnd_t,bnd_mk]
  by_cases k2:s.1>=p.2.2.2.2.2.2.2.2.2.2.2.2.2.2.2.1
  ·have hm:remI (s.1-p.2.2.2.2.2.2.2.2.2.2.2.2.2.2.2.1) p.2.2.2.2.2.2.2.2.2.2.2.2.2.2.2.2.1=some ((s.1-p.2.2.2.2.2.2.2.2.2.2.2.2.2.2.2.1) % p.2.2.2.2.2.2.2.2.2.2.2.2.2.2.2.2.1):=by
    unfold remI
    rw[if_neg (by omega),Int.tmod_eq_emod_of_nonneg (by omega)]
   rw[dT k2,cnd_t,wr_id (x:=s.1-p.2.2.2.2.2.2.2.2.2.2.2.2.2.2.2.1) (by omega) (by omega),hm,bnd_mk,bnd_mk]
   exact congrArg some (decide_eq_decide.2 ⟨fun h=>⟨k1,k2,h⟩,fun h=>h.2.2⟩)
  ·rw[dF k2,cnd_f,bnd_mk]
   exact congrArg some (dec_no fun h=>k2 h.2.1)
 ·rw[dF k1,cnd_f,bnd_mk,cnd_f,bnd_mk]
  exact congrArg some (dec_no fun h=>k1 h.1)
theorem stepH_sums:0<=s.2.2.2.2.2.2.2.1.1/\s.2.2.2.2.2.2.2.1.1<1048576/\(s.2.2.2.2.2.2.2.1.1=0->s.2.2.2.2.2.2.2.1.2.1.length=0)/\(s.2.2.2.2.2.2.2.1.1≠0->s.2.2.2.2.2.2.2.1.2.1.length=x.2.1.length):=by
 have hr:=stepH_range H
 obtain⟨_,b2,b3⟩:=H.hs.2.2.2.2
 have ht:TakenS s=s.1:=by unfold TakenS;rw[H.hg,if_neg (by decide)]
 rw[ht] at b2 b3
 have hn:=sums_nn p.2.2.2.2.2.2.2.2.2.2.2.2.2.2.2.1 p.2.2.2.2.2.2.2.2.2.2.2.2.2.2.2.2.1 s.1.toNat
 have hw:=H.hx.2.1
 refine⟨by omega,by omega,fun h=>?_,fun h=>?_⟩
 ·rw[if_neg (by omega)] at b3
  omega
 ·rw[if_pos (by omega)] at b3
  omega
theorem stepH_ema:s.2.2.2.2.2.2.1.length=0\/s.2.2.2.2.2.2.1.length=x.2.1.length:=by
 obtain⟨b1,_,_⟩:=H.hs.2.2.2.2
 have hw:=H.hx.2.1
 split at b1
 ·exact .inr (by omega)
 ·exact .inl (by omega)
theorem p_weights(n:Int) (ev:List EvD) (he:ev.length<=500) :
  engine_turn_weights (((),()),(p,s,x,s.1,n,ev,()),())=some (decide (¬ FailN p s x),((p,(if FailN p s x then s else(s.1,s.2.1,s.2.2.1,s.2.2.2.1,s.2.2.2.2.1,s.2.2.2.2.2.1,emaN p s x,swaN p s x,())),x,s.1,n,ev++(if FailN p s x then [(s.1,5,0,())] else evW p s),()),())):=by
 obtain⟨c0,c1,c2,c3⟩:=stepH_sums H
 have hl:=stepH_len H
 unfold engine_turn_weights
 dsimp only
 rw[p_summed H,bnd_mk]
 obtain⟨r,e,f1,f2⟩:=p_sadd s.2.2.2.2.2.2.2.1 x.2.1 c0 c1 c2 c3 (by omega) H.hi.sm H.hi.xw
 by_cases hF:FailN p s x
 ·rw[if_pos hF,if_pos hF,dT hF.1,cnd_t,e,bnd_mk,dF (f1 hF.2),Bool.not_false,cnd_t,p_tell _ _ _ _ (by dsimp only;omega),dF (not_not.2 hF)]
  rfl
 rw[if_neg hF,if_neg hF,dT hF]
 have hW:∀ {β γ:Type} (K:TurnD×Unit->Option γ),bndS (cnd (decide (SwN p s)) (bnd (swa_Add (s.2.2.2.2.2.2.2.1,x.2.1,())) fun r3=>cnd (!decide (r3.2.1=0)) (bnd (engine_turn_tell (((),5,0,()),((p,s,x,s.1,n,ev,()),()))) fun r4=>inrE (some (false,(r4.2.1,())))) (bnd (engine_turn_tell (((),4,s.2.2.2.2.2.2.2.1.1,()),((p,s,x,s.1,n,ev,()),()))) fun r5=>inlE ((r5.2.1.1,(r5.2.1.2.1.1,r5.2.1.2.1.2.1,r5.2.1.2.1.2.2.1,r5.2.1.2.1.2.2.2.1,r5.2.1.2.1.2.2.2.2.1,r5.2.1.2.1.2.2.2.2.2.1,r5.2.1.2.1.2.2.2.2.2.2.1,r3.1,r5.2.1.2.1.2.2.2.2.2.2.2.2),r5.2.1.2.2),()))) (inlE ((p,s,x,s.1,n,ev,()),())))=(fun(K:TurnD×Unit->Option (Bool×TurnD×Unit))=>K ((p,(s.1,s.2.1,s.2.2.1,s.2.2.2.1,s.2.2.2.2.1,s.2.2.2.2.2.1,s.2.2.2.2.2.2.1,swaN p s x,()),x,s.1,n,ev++evW p s,()),())):=by
  intro β γ K
  funext K
  unfold swaN evW
  by_cases h:SwN p s
  ·have hr:=f2 (fun k=>hF ⟨h,k⟩)
   subst hr
   rw[dT h,cnd_t,e,bnd_mk,dT rfl,Bool.not_true,cnd_f,p_tell _ _ _ _ (by dsimp only;omega),if_pos h,if_pos h]
   rfl
  ·rw[dF h,cnd_f,if_neg h,if_neg h,List.append_nil]
   rfl
 refine(congrFun (hW (β:=Unit) (γ:=Unit) (fun _=>none)) _).trans ?_
 dsimp only
 unfold emaN
 by_cases h:p.2.2.2.2.2.2.2.2.2.2.2.1.1=true
 ·have hd:=planD_ema H.hp h
  rw[h,cnd_t,p_ema s.2.2.2.2.2.2.1 x.2.1 p.2.2.2.2.2.2.2.2.2.2.2.1.2.1 hd.1 hd.2 (by omega) (stepH_ema H) H.hi.em H.hi.xw,if_pos rfl]
  rfl
 ·rw[show p.2.2.2.2.2.2.2.2.2.2.2.1.1=false by cases hh:p.2.2.2.2.2.2.2.2.2.2.2.1.1 with | false=>rfl | true=>exact(h hh).elim,cnd_f,if_neg Bool.false_ne_true]
  rfl
theorem p_run(n:Nat) (hn:n=phN p.2.2.2.2.2.1 s.1):engine_turn_run (((),()),(p,s,x,s.1,(n:Int),[],()),())=some ((),((p,(s.1,(StT p s x).2),x,s.1,(n:Int),EvT p s x,()),())):=by
 have hr:=stepH_range H
 have hph:=planD_phase H.hp hr.1 hr.2.1
 have hbl:=evB_len p H.hp s.1 n
 have hev:=planD_eval H.hp
 have hml:=evX_len H
 have hkl:(evK p s x).length<=1:=len_if1 _ _
 have hdl:(evD p s x).length<=1:=len_if1 _ _
 have hcl:(evC p s x).length<=1:=len_if1 _ _
 have hsl:(evS p s x).length<=1:=len_if1 _ _
 have hwl:(evW p s).length<=1:=len_if1 _ _
 unfold engine_turn_run
 dsimp only
 rw[p_begins p H.hp s x s.1 n (by rw[hn];exact hph.1) [] (by simp),bnd_mk,List.nil_append]
 dsimp only
 rw[show ∀ t,engine_turn_weights (((),()),t,())=engine_turn_weights (((),()),t,()) from fun _=>rfl]
 rw[show engine_turn_weights (((),()),(p,s,x,s.1,(n:Int),evB p s.1 n,()),())=_ from p_weights H (n:Int) (evB p s.1 n) (by omega),bnd_mk]
 dsimp only
 unfold StT EvT
 rw[← hn]
 by_cases hF:FailN p s x
 ·rw[if_pos hF,if_pos hF,if_pos hF,if_pos hF,dF (not_not.2 hF),Bool.not_false,cnd_t]
  rfl
 rw[if_neg hF,if_neg hF,if_neg hF,if_neg hF,dT hF,Bool.not_true,cnd_f]
 dsimp only
 have hlk:∀ {β:Type} (K:Bool->Option β),bnd (cnd (decide (p.2.2.2.2.1>0)) (bnd (remI (wr .i64 (s.1+1)) p.2.2.2.2.1) fun v4=>some (decide (v4=0))) (some false)) K=K (decide (LkN p s)):=by
  intro β K
  unfold LkN
  by_cases k:p.2.2.2.2.1>0
  ·have hm:remI (s.1+1) p.2.2.2.2.1=some ((s.1+1) % p.2.2.2.2.1):=by
    unfold remI
    rw[if_neg (by omega),Int.tmod_eq_emod_of_nonneg (by omega)]
   rw[dT k,cnd_t,wr_id (by omega) (by omega),hm,bnd_mk,bnd_mk]
   exact congrArg K (decide_eq_decide.2 (looked_next p.2.2.2.2.1 s.1 k))
  ·rw[dF k,cnd_f,bnd_mk]
   exact congrArg K (dec_no fun h=>k h.1)
 refine(hlk _).trans ?_
 have hL:∀ {β:Type} (K:TurnD×Unit->Option β),bnd (cnd (decide (LkN p s)) (bnd (engine_turn_look (((),()),((p,(s.1,s.2.1,s.2.2.1,s.2.2.2.1,s.2.2.2.2.1,s.2.2.2.2.2.1,emaN p s x,swaN p s x,()),x,s.1,(n:Int),evB p s.1 n++evW p s,()),()))) fun r7=>some (r7.2.1,())) (some ((p,(s.1,s.2.1,s.2.2.1,s.2.2.2.1,s.2.2.2.2.1,s.2.2.2.2.2.1,emaN p s x,swaN p s x,()),x,s.1,(n:Int),evB p s.1 n++evW p s,()),()))) K=K ((p,(s.1,if OutN p s x then 2 else s.2.1,if OutN p s x then s.1 else s.2.2.1,stopN p s x,cutN p s x,keptN p s x,emaN p s x,swaN p s x,()),x,s.1,(n:Int),evB p s.1 n++evW p s++(evM p s x++(evK p s x++(evD p s x++(evC p s x++evS p s x)))),()),()):=by
  intro β K
  by_cases k:LkN p s
  ·rw[dT k,cnd_t,p_look H _ _ _ _ (by rw[List.length_append];omega) k,bnd_mk,bnd_mk]
  ·have k1:¬ KeN p s x:=fun h=>k h.1
   have k2:¬ CuN p s x:=fun h=>k h.1
   have k3:¬ StN p s x:=fun h=>k h.1
   have k4:¬ OutN p s x:=fun h=>k3 h.1
   unfold evM evK evD evC evS stopN cutN keptN
   rw[dF k,cnd_f,bnd_mk,if_neg k4,if_neg k4,if_neg k3,if_neg k2,if_neg k1,if_neg k,if_neg (fun h=>k1 h.1),if_neg (fun h=>k1 h.1),if_neg (fun h=>k2 h.1),if_neg k4]
   simp only[List.append_nil]
 refine(hL _).trans ?_
 dsimp only
 rw[wr_id (x:=p.1-1) (by omega) (by omega),p_tell _ _ _ _ (by
  dsimp only
  simp only[List.length_append]
  omega),bnd_mk]
 dsimp only
 unfold evE
 rw[H.hg]
 by_cases k:s.1+1=p.1
 ·rw[dT (by omega:s.1=p.1-1),Bool.not_true,cnd_f,if_pos k,if_pos k,if_pos k]
  by_cases ho:OutN p s x
  ·rw[if_pos ho,if_pos ho,if_pos ho,if_pos ho]
   simp only[List.append_assoc]
   rfl
  ·rw[if_neg ho,if_neg ho,if_neg ho,if_neg ho]
   simp only[List.append_assoc]
   rfl
 ·rw[dF (by omega:¬ s.1=p.1-1),Bool.not_false,cnd_t,if_neg k,if_neg k,if_neg k]
  simp only[List.append_assoc,List.append_nil]
end
end Go.Proofs.YtmomjjgokeffnaaGreat.F
namespace Go.Proofs.YtmomjjgokeffnaaGreat.F
open Go.VX
open Classical
theorem seg_to(l:List SegD) (h:SegsOk l):∀ j i:Nat,i<j->j<l.length->(nth zSeg l i).2.1<=(nth zSeg l j).1
 | 0,i,hi,_=>by omega
 | j+1,i,hi,hj=>by
  have h1:=h (j+1) hj
  have h2:=h1.2 (by omega)
  rw[Nat.add_sub_cancel] at h2
  by_cases e:i=j
  ·subst e;omega
  ·have:=seg_to l h j i (by omega) (by omega)
   have h3:=(h j (by omega)).1
   unfold SegOk at h3
   omega
def HasStep(l:List SegD) (step:Int) (i:Nat):Prop:=i<l.length/\(nth zSeg l i).1<=step/\step<(nth zSeg l i).2.1
theorem has_one(l:List SegD) (h:SegsOk l) (step:Int) (i j:Nat) (hi:HasStep l step i) (hj:HasStep l step j):i=j:=by
 unfold HasStep at hi hj
 rcases Nat.lt_trichotomy i j with k | k | k
 ·have:=seg_to l h j i k hj.1;omega
 ·exact k
 ·have:=seg_to l h i j k hi.1;omega
theorem r_find(l:List SegD) (step:Int) (hl:l.length<=9223372036854775807):∃ r,q24_Find (l,step,())=some r/\((∃ i:Nat,r=i/\HasStep l step i)\/(r=-1/\∀ i,¬ HasStep l step i)):=by
 unfold q24_Find
 dsimp only
 obtain⟨r,e,h⟩:=loop_rule (ρ:=Unit ⊕ Int) (f:=(fun(s2:Int×Unit)=>cnd (decide (s2.1<(l.length:Int))) (bnd (ati l s2.1) fun v3=>bnd (cnd (decide (step>=v3.1)) (bnd (ati l s2.1) fun v4=>some (decide (step<v4.2.1))) (some false)) fun j5=>cnd j5 (inrE (inrE (some s2.1))) (inlE (wr .i64 (s2.1+1),()))) (inrE (inlE (())))))
  (fun s=>0<=s.1/\s.1<=l.length/\∀ j:Nat,j<s.1.toNat->¬ HasStep l step j) (fun s=>l.length-s.1.toNat) (fun r=>(∃ i:Nat,r=.inr (i:Int)/\HasStep l step i)\/(r=.inl ()/\∀ i,¬ HasStep l step i)) (fun s ⟨i0,i1,i2⟩=>by
   obtain⟨i,_⟩:=s
   dsimp only at *
   obtain⟨k,rfl⟩:∃ k:Nat,i=k:=⟨i.toNat,by omega⟩
   by_cases hk:k<l.length
   ·rw[lt_true hk,cnd_t,ati_d zSeg hk,bnd_mk,wr_succ hk hl]
    by_cases h1:(nth zSeg l k).1<=step
    ·by_cases h2:step<(nth zSeg l k).2.1
     ·right
      exact⟨_,by rw[dT (show step>=(nth zSeg l k).1 from h1),cnd_t,bnd_mk,dT h2];rfl,.inl ⟨k,rfl,hk,h1,h2⟩⟩
     ·left
      refine⟨_,by rw[dT (show step>=(nth zSeg l k).1 from h1),cnd_t,bnd_mk,dF h2];rfl,⟨by dsimp only;omega,by dsimp only;omega,fun j hj hh=>?_⟩,by dsimp only;omega⟩
      dsimp only at hj
      by_cases hjk:j=k
      ·subst hjk;exact h2 hh.2.2
      ·exact i2 j (by omega) hh
    ·left
     refine⟨_,by rw[dF (show ¬ step>=(nth zSeg l k).1 from h1)];rfl,⟨by dsimp only;omega,by dsimp only;omega,fun j hj hh=>?_⟩,by dsimp only;omega⟩
     dsimp only at hj
     by_cases hjk:j=k
     ·subst hjk;exact h1 hh.2.1
     ·exact i2 j (by omega) hh
   ·right
    have hkn:k=l.length:=by omega
    subst hkn
    rw[lt_false,cnd_f]
    exact⟨_,rfl,.inr ⟨rfl,fun j hj=>i2 j (by rw[Int.toNat_natCast];exact hj.1) hj⟩⟩) (0,()) ⟨Int.le_refl _,by dsimp only;omega,fun j hj=>by simp at hj⟩
 rw[e]
 rcases h with⟨i,rfl,h⟩ | ⟨rfl,h⟩
 ·exact⟨i,rfl,.inl ⟨i,rfl,h⟩⟩
 ·exact⟨-1,rfl,.inr ⟨rfl,h⟩⟩
theorem cmp3_int(x y:Int):cmp_Compare_int (x,y,())=some (if x<y then -1 else if y<x then 1 else 0):=by
 unfold cmp_Compare_int cmp_isNaN_int
 simp only[bnd_mk,cnd_if,ite_some,decide_true,Bool.not_true,Bool.false_eq_true,if_false,decide_eq_true_eq]
theorem search(l:List SegD) (step:Int) (hs:SegsOk l) (hl:l.length<=4611686018427387903) :
  ∃ (lo:Nat) (b:Bool),slices_BinarySearchFunc_Seg_int (l,step,(fun a1=>bnd (segs_find_1 a1) some),())=some ((lo:Int),b,())/\lo<=l.length/\(∀ j,j<lo->(nth zSeg l j).1<step)/\(∀ j,lo<=j->j<l.length->step<=(nth zSeg l j).1) /\
   (b=true↔lo<l.length/\(nth zSeg l lo).1=step):=by
 have hf:∀ v:SegD,bnd (segs_find_1 (v,step,())) some=some (if v.1<step then -1 else if step<v.1 then 1 else 0):=fun v=>by
  unfold segs_find_1
  dsimp only
  rw[cmp3_int]
  rfl
 have up:∀ i j:Nat,i<j->j<l.length->(nth zSeg l i).1<(nth zSeg l j).1:=fun i j h1 h2=>by
  have k1:=seg_to l hs j i h1 h2
  have k2:=(hs i (by omega)).1
  unfold SegOk at k2
  omega
 unfold slices_BinarySearchFunc_Seg_int
 dsimp only
 obtain⟨r,e,h⟩:=loop_rule (ρ:=Int×Unit) (f:=(fun(s2:Int×Int×Unit)=>cnd (decide (s2.1<s2.2.1)) (bnd (ati l (wr .i64 (Int.fdiv (wr .u64 (wr .i64 (s2.1+s2.2.1))) (2 ^ 1)))) fun v3=>bnd (bnd (segs_find_1 (v3,step,())) some) fun r4=>bnd (cnd (decide (r4<0)) (some (wr .i64 ((wr .i64 (Int.fdiv (wr .u64 (wr .i64 (s2.1+s2.2.1))) (2 ^ 1)))+1),s2.2.1,())) (some (s2.1,wr .i64 (Int.fdiv (wr .u64 (wr .i64 (s2.1+s2.2.1))) (2 ^ 1)),()))) fun j5=>inlE (j5.1,j5.2.1,())) (inrE (some (s2.1,())))))
  (fun s=>0<=s.1/\s.1<=s.2.1/\s.2.1<=l.length/\(∀ j:Nat,j<s.1.toNat->(nth zSeg l j).1<step)/\(∀ j:Nat,s.2.1.toNat<=j->j<l.length->step<=(nth zSeg l j).1)) (fun s=>(s.2.1-s.1).toNat)
  (fun r=>∃ lo:Nat,r=((lo:Int),())/\lo<=l.length/\(∀ j,j<lo->(nth zSeg l j).1<step)/\(∀ j,lo<=j->j<l.length->step<=(nth zSeg l j).1)) (fun s ⟨i0,i1,i2,i3,i4⟩=>by
   obtain⟨lo,hi,_⟩:=s
   dsimp only at *
   obtain⟨a,rfl⟩:∃ k:Nat,lo=k:=⟨lo.toNat,by omega⟩
   obtain⟨b,rfl⟩:∃ k:Nat,hi=k:=⟨hi.toNat,by omega⟩
   rw[Int.toNat_natCast] at i3 i4
   by_cases hab:a<b
   ·left
    have hm:wr .i64 (Int.fdiv (wr .u64 (wr .i64 ((a:Int)+(b:Int)))) (2 ^ 1))=(((a+b) / 2:Nat):Int):=by
     rw[wr_id (x:=(a:Int)+(b:Int)) (by omega) (by omega),wru_id (by omega) (by omega),show((2:Int) ^ 1)=2 from rfl,fdiv_pos 2 (by omega),wr_id (by omega) (by omega)]
     omega
    have hlt:(a+b) / 2<l.length:=by omega
    rw[hm,dT (by omega:(a:Int)<(b:Int)),cnd_t,ati_d zSeg hlt,bnd_mk,hf,bnd_mk]
    by_cases hc:(nth zSeg l ((a+b) / 2)).1<step
    ·rw[if_pos hc,wr_id (x:=(((a+b) / 2:Nat):Int)+1) (by omega) (by omega)]
     refine⟨((((a+b) / 2:Nat):Int)+1,(b:Int),()),rfl,⟨by dsimp only;omega,by dsimp only;omega,by dsimp only;omega,fun j hj=>?_,fun j hj=>i4 j (by dsimp only at hj;omega)⟩,by dsimp only;omega⟩
     dsimp only at hj
     by_cases hje:j=(a+b) / 2
     ·rw[hje];exact hc
     ·have:=up j ((a+b) / 2) (by omega) hlt
      omega
    ·have hn:¬ ((if step<(nth zSeg l ((a+b) / 2)).1 then(1:Int) else 0)<0):=by split<;>omega
     rw[if_neg hc,dF hn]
     refine⟨((a:Int),(((a+b) / 2:Nat):Int),()),rfl,⟨by dsimp only;omega,by dsimp only;omega,by dsimp only;omega,fun j hj=>i3 j (by dsimp only at hj;omega),fun j hj hj2=>?_⟩,by dsimp only;omega⟩
     dsimp only at hj
     by_cases hje:j=(a+b) / 2
     ·rw[hje];omega
     ·have:=up ((a+b) / 2) j (by omega) hj2
      omega
   ·right
    have:a=b:=by omega
    subst this
    rw[dF (by omega:¬ (a:Int)<(a:Int)),cnd_f]
    exact⟨_,rfl,a,rfl,by omega,i3,i4⟩) (0,(l.length:Int),()) ⟨by dsimp only;omega,by dsimp only;omega,by dsimp only;omega,fun j hj=>by simp at hj,fun j hj hj2=>by dsimp only at hj;omega⟩
 rw[e,bnd_mk]
 obtain⟨lo,rfl,h1,h2,h3⟩:=h
 dsimp only
 by_cases hlo:lo<l.length
 ·rw[lt_true hlo,cnd_t,ati_d zSeg hlo,bnd_mk,hf,bnd_mk,bnd_mk]
  refine⟨lo,_,rfl,h1,h2,h3,?_⟩
  rw[decide_eq_true_eq]
  constructor
  ·intro k
   refine⟨hlo,?_⟩
   split at k
   ·omega
   ·split at k<;>omega
  ·intro k
   rw[k.2,if_neg (by omega),if_neg (by omega)]
 ·have:lo=l.length:=by omega
  subst this
  rw[lt_false,cnd_f,bnd_mk]
  refine⟨_,_,rfl,h1,h2,h3,?_⟩
  simp
theorem p_find(l:List SegD) (step:Int) (hs:SegsOk l) (hl:l.length<=4611686018427387903):∃ r,segs_find (l,step,())=some r/\((∃ i:Nat,r=i/\HasStep l step i)\/(r=-1/\∀ i,¬ HasStep l step i)):=by
 obtain⟨lo,b,e,h1,h2,h3,h4⟩:=search l step hs hl
 unfold segs_find
 dsimp only
 rw[e,bnd_mk]
 dsimp only
 have up:∀ i j:Nat,i<j->j<l.length->(nth zSeg l i).1<(nth zSeg l j).1:=fun i j h1 h2=>by
  have k1:=seg_to l hs j i h1 h2
  have k2:=(hs i (by omega)).1
  unfold SegOk at k2
  omega
 cases b with
 | true =>
  obtain⟨g1,g2⟩:=h4.1 rfl
  have k2:=(hs lo g1).1
  unfold SegOk at k2
  rw[Bool.not_true,cnd_f,bnd_mk]
  dsimp only
  rw[dF (by omega:¬ (lo:Int)<0),Bool.not_false,cnd_t,ati_d zSeg g1,bnd_mk,bnd_mk,dF (by omega:¬ step>=(nth zSeg l lo).2.1)]
  exact⟨_,rfl,.inl ⟨lo,rfl,g1,by omega,by omega⟩⟩
 | false =>
  have hne:∀ j,lo<=j->j<l.length->step<(nth zSeg l j).1:=fun j hj hj2=>by
   have k1:=h3 j hj hj2
   by_cases e:j=lo
   ·subst e
    have:¬ (nth zSeg l j).1=step:=fun k=>(Bool.false_ne_true (h4.2 ⟨hj2,k⟩)).elim
    omega
   ·have:=up lo j (by omega) hj2
    have:=h3 lo (by omega) (by omega)
    omega
  rw[Bool.not_false,cnd_t,bnd_mk,wr_id (x:=(lo:Int)-1) (by omega) (by omega)]
  dsimp only
  by_cases h0:lo=0
  ·rw[dT (by omega:(lo:Int)-1<0)]
   refine⟨_,rfl,.inr ⟨rfl,fun i hi=>?_⟩⟩
   have:=hne i (by omega) hi.1
   unfold HasStep at hi
   omega
  ·have hlt:lo-1<l.length:=by omega
   rw[dF (by omega:¬ (lo:Int)-1<0),Bool.not_false,cnd_t,show(lo:Int)-1=((lo-1:Nat):Int) by omega,ati_d zSeg hlt,bnd_mk,bnd_mk]
   have k1:=h2 (lo-1) (by omega)
   by_cases hto:step<(nth zSeg l (lo-1)).2.1
   ·rw[dF (by omega:¬ step>=(nth zSeg l (lo-1)).2.1)]
    exact⟨_,rfl,.inl ⟨lo-1,rfl,hlt,by omega,hto⟩⟩
   ·rw[dT (by omega:step>=(nth zSeg l (lo-1)).2.1)]
    refine⟨_,rfl,.inr ⟨rfl,fun i hi=>?_⟩⟩
    unfold HasStep at hi
    by_cases h5:lo<=i
    ·have:=hne i h5 hi.1;omega
    ·by_cases h6:i=lo-1
     ·subst h6;omega
     ·have:=seg_to l hs (lo-1) i (by omega) hlt
      have k2:=(hs (lo-1) hlt).1
      unfold SegOk at k2
      omega
theorem finds(l:List SegD) (step:Int) (hs:SegsOk l) (hl:l.length<=4611686018427387903):∃ r,segs_find (l,step,())=some r/\q24_Find (l,step,())=some r/\((∃ i:Nat,r=i/\HasStep l step i)\/(r=-1/\∀ i,¬ HasStep l step i)):=by
 obtain⟨r,e,h⟩:=p_find l step hs hl
 obtain⟨r',e',h'⟩:=r_find l step (by omega)
 refine⟨r,e,?_,h⟩
 rcases h with⟨i,rfl,h⟩ | ⟨rfl,h⟩<;>rcases h' with⟨i',rfl,h'⟩ | ⟨rfl,h'⟩
 ·rw[e',has_one l hs step i' i h' h]
 ·exact(h' i h).elim
 ·exact(h i' h').elim
 ·exact e'
def cy(F t:Int):Nat->Int×Int
 | 0=>(0,F)
 | n+1=>((cy F t n).2,(cy F t n).2+(if t*((cy F t n).2-(cy F t n).1)>1048576 then 1048576 else t*((cy F t n).2-(cy F t n).1)))
theorem cy_spec(F t:Int) (hF:1<=F) (hF2:F<=1048576) (ht:1<=t):∀ n,0<=(cy F t n).1/\1<=(cy F t n).2-(cy F t n).1/\(cy F t n).2-(cy F t n).1<=1048576/\(n:Int)<(cy F t n).2
 | 0=>by simp only[cy];omega
 | n+1=>by
  have h:=cy_spec F t hF hF2 ht n
  simp only[cy]
  generalize (cy F t n).1=a at *
  generalize (cy F t n).2=b at *
  have h1:1*(b-a)<=t*(b-a):=Int.mul_le_mul_of_nonneg_right ht (by omega)
  generalize t*(b-a)=m at *
  split<;>omega
theorem cy_one(F:Int) (hF:1<=F) (hF2:F<=1048576):∀ n:Nat,cy F 1 n=(n*F,n*F+F)
 | 0=>by simp [cy]
 | n+1=>by
  simp only[cy,cy_one F hF hF2 n]
  have e:((n+1:Nat):Int)*F=n*F+F:=by grind
  rw[e]
  generalize (n:Int)*F=m
  rw[if_neg (by omega)]
  congr 1
  omega
def IsCy(F t at':Int) (n:Nat):Prop:=at'<(cy F t n).2/\∀ m,m<n->(cy F t m).2<=at'
theorem isCy_one{F t at':Int} {n m:Nat} (hn:IsCy F t at' n) (hm:IsCy F t at' m):n=m:=by
 rcases Nat.lt_trichotomy n m with k | k | k
 ·have:=hm.2 n k;have:=hn.1;omega
 ·exact k
 ·have:=hn.2 m k;have:=hm.1;omega
theorem cy_in{F t at':Int} {n:Nat} (hn:IsCy F t at' n) (h0:0<=at'):(cy F t n).1<=at':=by
 cases n with
 | zero=>simpa [cy] using h0
 | succ n=>simpa [cy] using hn.2 n (by omega)
theorem r_cycle(F t at':Int) (hF:1<=F) (hF2:F<=1048576) (ht:1<=t) (ht2:t<=16) (h0:0<=at') (h1:at'<=1048576):∃ n:Nat,q23_Find (F,t,at',())=some (((cy F t n).1,(cy F t n).2,()),(n:Int),())/\IsCy F t at' n:=by
 unfold q23_Find
 dsimp only
 obtain⟨r,e,h⟩:=loop_rule (ρ:=Int×(Int×(Int×Unit))×Unit) (f:=(fun(s2:Int×(Int×(Int×Unit))×Unit)=>bnd (cnd (decide (s2.1<=1048576)) (some (decide (s2.2.1.2.1<=at'))) (some false)) fun j3=>cnd j3 (bnd (q23_Next (s2.2.1,t,())) fun r4=>inlE (wr .i64 (s2.1+1),r4,())) (inrE (some (s2.1,s2.2.1,())))))
  (fun s=>∃ n:Nat,s=((n:Int),((cy F t n).1,(cy F t n).2,()),())/\n<=1048576/\∀ m,m<n->(cy F t m).2<=at') (fun s=>1048577-s.1.toNat) (fun r=>∃ n:Nat,r=((n:Int),((cy F t n).1,(cy F t n).2,()),())/\IsCy F t at' n) (fun s ⟨n,hs,hn,hm⟩=>by
   subst hs
   dsimp only
   have hc:=cy_spec F t hF hF2 ht n
   have hc1:=cy_spec F t hF hF2 ht (n+1)
   rw[dT (by omega:(n:Int)<=1048576),cnd_t,bnd_mk]
   by_cases hto:(cy F t n).2<=at'
   ·left
    have hb1:t*((cy F t n).2-(cy F t n).1)<=16*((cy F t n).2-(cy F t n).1):=Int.mul_le_mul_of_nonneg_right ht2 (by omega)
    have hb2:1*((cy F t n).2-(cy F t n).1)<=t*((cy F t n).2-(cy F t n).1):=Int.mul_le_mul_of_nonneg_right ht (by omega)
    have hnx:q23_Next (((cy F t n).1,(cy F t n).2,()),t,())=some ((cy F t (n+1)).1,(cy F t (n+1)).2,()):=by
     unfold q23_Next
     dsimp only
     rw[wr_id (x:=(cy F t n).2-(cy F t n).1) (by omega) (by omega)]
     simp only[cy]
     generalize t*((cy F t n).2-(cy F t n).1)=m at *
     rw[wr_id (x:=m) (by omega) (by omega)]
     by_cases hmm:m>1048576
     ·rw[dT hmm,if_pos hmm,cnd_t,bnd_mk,wr_id (by omega) (by omega)]
     ·rw[dF hmm,if_neg hmm,cnd_f,bnd_mk,wr_id (by omega) (by omega)]
    rw[dT hto,cnd_t,hnx,bnd_mk,wr_id (x:=(n:Int)+1) (by omega) (by omega)]
    refine⟨_,rfl,⟨n+1,rfl,by omega,fun m hm2=>?_⟩,by dsimp only;omega⟩
    by_cases e:m=n
    ·subst e;exact hto
    ·exact hm m (by omega)
   ·right
    rw[dF hto,cnd_f]
    exact⟨_,rfl,n,rfl,by omega,hm⟩) (0,(0,F,()),()) ⟨0,rfl,by omega,fun m hm=>by omega⟩
 rw[e,bnd_mk]
 obtain⟨n,rfl,h⟩:=h
 exact⟨n,rfl,h⟩
theorem p_cycle(F t at':Int) (hF:1<=F) (hF2:F<=1048576) (ht:1<=t) (ht2:t<=16) (h0:0<=at') (h1:at'<=1048576):∃ n:Nat,cycle_Find (F,t,at',())=some (((cy F t n).1,(cy F t n).2,()),(n:Int),0,())/\IsCy F t at' n:=by
 obtain⟨n,e,hn⟩:∃ n:Nat,cycle_find (F,t,at',())=some (((cy F t n).1,(cy F t n).2,()),(n:Int),())/\IsCy F t at' n:=by
  unfold cycle_find
  dsimp only
  by_cases h:t=1
  ·subst h
   rw[dT rfl,cnd_t]
   obtain⟨a,rfl⟩:∃ k:Nat,at'=k:=⟨at'.toNat,by omega⟩
   obtain⟨f,rfl⟩:∃ k:Nat,F=k:=⟨F.toNat,by omega⟩
   have hd:=Nat.div_add_mod a f
   have hmod:a % f<f:=Nat.mod_lt _ (by omega)
   have hle:a / f<=a:=Nat.div_le_self _ _
   have hd2:(a:Int) / (f:Int)=((a / f:Nat):Int):=rfl
   generalize a / f=k at *
   have hq:quoI .i64 (a:Int) (f:Int)=some (k:Int):=by
    unfold quoI
    rw[if_neg (by omega),Int.tdiv_eq_ediv_of_nonneg (by omega),hd2]
    show some (wr .i64 _)=_
    rw[wr_id (x:=(k:Int)) (by omega) (by omega)]
   rw[hq,bnd_mk]
   have hmul:(k:Int)*(f:Int)=((f*k:Nat):Int):=by rw[Int.natCast_mul,Int.mul_comm]
   refine⟨k,?_,?_,fun m hm=>?_⟩
   ·rw[cy_one _ hF hF2,hmul]
    generalize f*k=z at *
    rw[wr_id (x:=(z:Int)) (by omega) (by omega),wr_id (by omega) (by omega)]
   ·rw[cy_one _ hF hF2,hmul]
    generalize f*k=z at *
    dsimp only
    omega
   ·rw[cy_one _ hF hF2]
    have h2:f*(m+1)<=f*k:=Nat.mul_le_mul_left _ hm
    have h3:(m:Int)*(f:Int)+(f:Int)=((f*(m+1):Nat):Int):=by rw[Int.natCast_mul];grind
    dsimp only
    rw[h3]
    generalize f*(m+1)=y at *
    generalize f*k=z at *
    omega
  ·rw[dF h,cnd_f]
   obtain⟨r,e,h⟩:=loop_rule (ρ:=Int×(Int×(Int×Unit))×Unit) (f:=(fun(s3:Int×(Int×(Int×Unit))×Unit)=>cnd (decide (s3.2.1.2.1<=at')) (bnd (cycle_next (s3.2.1,t,())) fun r4=>inlE (wr .i64 (s3.1+1),r4,())) (inrE (some (s3.1,s3.2.1,())))))
    (fun s=>∃ n:Nat,s=((n:Int),((cy F t n).1,(cy F t n).2,()),())/\n<=1048576/\∀ m,m<n->(cy F t m).2<=at') (fun s=>1048577-s.1.toNat) (fun r=>∃ n:Nat,r=((n:Int),((cy F t n).1,(cy F t n).2,()),())/\IsCy F t at' n) (fun s ⟨n,hs,hn,hm⟩=>by
     subst hs
     dsimp only
     have hc:=cy_spec F t hF hF2 ht n
     have hc1:=cy_spec F t hF hF2 ht (n+1)
     by_cases hto:(cy F t n).2<=at'
     ·left
      have hb1:t*((cy F t n).2-(cy F t n).1)<=16*((cy F t n).2-(cy F t n).1):=Int.mul_le_mul_of_nonneg_right ht2 (by omega)
      have hb2:1*((cy F t n).2-(cy F t n).1)<=t*((cy F t n).2-(cy F t n).1):=Int.mul_le_mul_of_nonneg_right ht (by omega)
      have hnx:cycle_next (((cy F t n).1,(cy F t n).2,()),t,())=some ((cy F t (n+1)).1,(cy F t (n+1)).2,()):=by
       unfold cycle_next
       dsimp only
       rw[wr_id (x:=(cy F t n).2-(cy F t n).1) (by omega) (by omega),Int.mul_comm _ t]
       simp only[cy,minL]
       generalize t*((cy F t n).2-(cy F t n).1)=m at *
       rw[wr_id (x:=m) (by omega) (by omega)]
       by_cases hmm:m>1048576
       ·rw[if_pos hmm,wr_id (by omega) (by omega)]
       ·rw[if_neg hmm,wr_id (by omega) (by omega)]
      rw[dT hto,cnd_t,hnx,bnd_mk,wr_id (x:=(n:Int)+1) (by omega) (by omega)]
      refine⟨_,rfl,⟨n+1,rfl,by omega,fun m hm2=>?_⟩,by dsimp only;omega⟩
      by_cases e:m=n
      ·subst e;exact hto
      ·exact hm m (by omega)
     ·right
      rw[dF hto,cnd_f]
      exact⟨_,rfl,n,rfl,by omega,hm⟩) (0,(0,F,()),()) ⟨0,rfl,by omega,fun m hm=>by omega⟩
   rw[e,bnd_mk]
   obtain⟨n,rfl,h⟩:=h
   exact⟨n,rfl,h⟩
 refine⟨n,?_,hn⟩
 unfold cycle_Find cycle_may cycle_within
 dsimp only
 rw[e,dT (show F>=1 from hF),dT hF2,dT (show t>=1 from ht),dT ht2,dT (show at'>=0 from h0),dT h1]
 rfl
theorem value_ok(s:SegD) (step:Int) (hs:SegOk s) (h0:s.1<=step) (h1:step<s.2.1):∃ v,segs_value (s,step,())=some (v,0,())/\q24_Value (s,step,())=some v/\(BoundsS s.2.2.2.2.1).1<=v/\v<=(BoundsS s.2.2.2.2.1).2.1:=by
 have hs':=hs
 unfold SegOk at hs'
 unfold segs_value q24_Value
 dsimp only
 obtain⟨g1,g2,g3,g4,g5,g6,g7⟩:=hs'
 rw[wr_id (x:=step-s.2.2.1) (by omega) (by omega)]
 by_cases hf:s.2.2.2.2.2.1=0
 ·have hn:s.2.1-s.2.2.1<=s.2.2.2.1/\s.2.2.2.1<=1048576:=by omega
  rw[dT hf,cnd_t,cnd_t,p_atS _ _ _ g6 (by omega) (by omega) (by omega) (by omega),r_atS _ _ _ g6 (by omega) (by omega) (by omega) (by omega)]
  exact⟨_,rfl,rfl,curveS_in _ _ _ g6 (by omega) (by omega) (by omega)⟩
 ·rw[dF hf,cnd_f,cnd_f]
  obtain⟨n,e1,k1⟩:=p_cycle s.2.2.2.2.2.1 s.2.2.2.2.2.2.1 (step-s.2.2.1) (by omega) (by omega) (by omega) (by omega) (by omega) (by omega)
  obtain⟨n',e2,k2⟩:=r_cycle s.2.2.2.2.2.1 s.2.2.2.2.2.2.1 (step-s.2.2.1) (by omega) (by omega) (by omega) (by omega) (by omega) (by omega)
  have:=isCy_one k2 k1
  subst this
  rw[e1,e2,bnd_mk,bnd_mk]
  dsimp only
  have hc:=cy_spec s.2.2.2.2.2.1 s.2.2.2.2.2.2.1 (by omega) (by omega) (by omega) n'
  have hi:=cy_in k1 (by omega)
  have hj:=k1.1
  rw[wr_id (x:=step-s.2.2.1-_) (by omega) (by omega),wr_id (by omega) (by omega),p_atS _ _ _ g6 (by omega) (by omega) (by omega) (by omega),r_atS _ _ _ g6 (by omega) (by omega) (by omega) (by omega)]
  exact⟨_,rfl,rfl,curveS_in _ _ _ g6 (by omega) (by omega) (by omega)⟩
theorem p_segat(l:List SegD) (step:Int) (hs:SegsOk l) (hl0:0<l.length) (hl:l.length<=4611686018427387903) :
  (∃ (i:Nat) (v:Int),HasStep l step i/\segs_At (l,step,())=some (v,0,())/\segs_find (l,step,())=some (i:Int)/\q24_Find (l,step,())=some (i:Int)/\q24_Value (nth zSeg l i,step,())=some v/\(BoundsS (nth zSeg l i).2.2.2.2.1).1<=v/\v<=(BoundsS (nth zSeg l i).2.2.2.2.1).2.1) \/
  ((∀ i,¬ HasStep l step i)/\segs_At (l,step,())=some (0,8,())/\segs_find (l,step,())=some (-1)/\q24_Find (l,step,())=some (-1)):=by
 obtain⟨r,e1,e2,h⟩:=finds l step hs hl
 unfold segs_At
 dsimp only
 rw[p_segs l (by omega),if_pos ⟨hs,hl0⟩,bnd_mk,dT rfl,Bool.not_true,cnd_f,e1,bnd_mk]
 rcases h with⟨i,rfl,h⟩ | ⟨rfl,h⟩
 ·left
  obtain⟨v,f1,f2,f3⟩:=value_ok (nth zSeg l i) step (hs i h.1).1 h.2.1 h.2.2
  refine⟨i,v,h,?_,rfl,e2,f2,f3⟩
  rw[dF (by omega:¬ (i:Int)<0),cnd_f,ati_d zSeg h.1,bnd_mk,f1,bnd_mk]
 ·right
  exact⟨h,rfl,rfl,e2⟩
end Go.Proofs.YtmomjjgokeffnaaGreat.F
namespace Go.Proofs.YtmomjjgokeffnaaGreat.F
open Go.VX
open Classical
noncomputable def valF(l:List SegD) (step:Int):Int:=match segs_At (l,step,()) with
 | some r=>r.1
 | none=>0
theorem bounds_q(c:CurveD) (h:CurveOk c):0<=(BoundsS c).1/\(BoundsS c).2.1<=4503599627370496:=by
 unfold BoundsS
 unfold CurveOk at h
 split
 ·dsimp only;omega
 ·split
  ·dsimp only;omega
  ·dsimp only;omega
theorem segs_val(l:List SegD) (step:Int) (hs:SegsOk l) (hl0:0<l.length) (hl:l.length<=4611686018427387903):∃ e,segs_At (l,step,())=some (valF l step,e,())/\0<=valF l step/\valF l step<=4503599627370496:=by
 unfold valF
 rcases p_segat l step hs hl0 hl with⟨i,v,h1,h2,_,_,_,h3,h4⟩ | ⟨_,h2,_⟩
 ·have hb:=bounds_q (nth zSeg l i).2.2.2.2.1 (hs i h1.1).1.2.2.2.2.2.1
  rw[h2]
  refine⟨0,rfl,?_,?_⟩
  ·dsimp only;omega
  ·dsimp only;omega
 ·rw[h2]
  exact⟨8,rfl,by decide,by decide⟩
theorem seg_place(l:List SegD) (hs:SegsOk l):∀ i:Nat,i<l.length->(i:Int)<(nth zSeg l i).2.1
 | 0,h=>by
  have k:=(hs 0 h).1
  unfold SegOk at k
  omega
 | i+1,h=>by
  have k:=seg_place l hs i (by omega)
  have k2:=hs (i+1) h
  have k3:=k2.2 (by omega)
  rw[Nat.add_sub_cancel] at k3
  have k4:=k2.1
  unfold SegOk at k4
  omega
theorem seg_len(l:List SegD) (hs:SegsOk l) (n:Int) (hn:(nth zSeg l (l.length-1)).2.1=n) (h:n<=1000000):l.length<=4611686018427387903:=by
 by_cases h0:l.length=0
 ·omega
 ·have:=seg_place l hs (l.length-1) (by omega)
  omega
section
variable (a0 a1 a2 a3 a4:Int) (sp:List SpanD) (fz:List (List Bool)) (tr:List TrackD) (st:StopD) (cu:CutD) (ke:KeepD) (em:Bool×Int×Unit) (o1 o2 o3 sf se:Int)
end
end Go.Proofs.YtmomjjgokeffnaaGreat.F
namespace Go.Proofs.YtmomjjgokeffnaaGreat.F
open Go.VX
open Classical
theorem cover(step:Int) (l:List SegD) (hs:SegsOk l) (h0:(nth zSeg l 0).1<=step):∀ j,j<l.length->step<(nth zSeg l j).2.1->∃ i,HasStep l step i
 | 0,hj,h=>⟨0,hj,h0,h⟩
 | j+1,hj,h=>by
  by_cases k:step<(nth zSeg l j).2.1
  ·exact cover step l hs h0 j (by omega) k
  ·have:=(hs (j+1) hj).2 (by omega)
   rw[Nat.add_sub_cancel] at this
   exact⟨j+1,hj,by omega,h⟩
end Go.Proofs.YtmomjjgokeffnaaGreat.F
namespace Go.Proofs.YtmomjjgokeffnaaGreat.F
open Go.VX
open Classical
noncomputable def rowS(p:PlanD) (step:Int):List Int:=p.2.2.2.2.2.2.2.1.map fun t=>valF t.2.2.1 step
theorem track_at(l:List SegD) (n step:Int) (hs:SegsOk l) (h0:0<l.length) (hf:(nth zSeg l 0).1=0) (ht:(nth zSeg l (l.length-1)).2.1=n) (hn:n<=1000000) (s0:0<=step) (s1:step<n) :
  ∃ i:Nat,i<l.length/\segs_At (l,step,())=some (valF l step,0,())/\q24_Find (l,step,())=some (i:Int)/\q24_Value (nth zSeg l i,step,())=some (valF l step)/\0<=valF l step/\valF l step<=4503599627370496:=by
 obtain⟨_,_,b1,b2⟩:=segs_val l step hs h0 (seg_len l hs n ht hn)
 obtain⟨j,hj⟩:=cover step l hs (by omega) (l.length-1) (by omega) (by omega)
 rcases p_segat l step hs h0 (seg_len l hs n ht hn) with⟨i,v,h1,h2,_,h4,h5,_⟩ | ⟨h,_⟩
 ·have hv:valF l step=v:=by unfold valF;rw[h2]
  rw[hv] at b1 b2 ⊢
  exact⟨i,h1.1,h2,h4,h5,b1,b2⟩
 ·exact(h j hj).elim
theorem planD_track{p:PlanD} (h:PlanOkD p) (step:Int) (s0:0<=step) (s1:step<p.1) (k:Nat) (hk:k<p.2.2.2.2.2.2.2.1.length) :
  (∃ i:Nat,i<(nth zTrack p.2.2.2.2.2.2.2.1 k).2.2.1.length/\segs_At ((nth zTrack p.2.2.2.2.2.2.2.1 k).2.2.1,step,())=some (valF (nth zTrack p.2.2.2.2.2.2.2.1 k).2.2.1 step,0,())/\q24_Find ((nth zTrack p.2.2.2.2.2.2.2.1 k).2.2.1,step,())=some (i:Int)/\q24_Value (nth zSeg (nth zTrack p.2.2.2.2.2.2.2.1 k).2.2.1 i,step,())=some (valF (nth zTrack p.2.2.2.2.2.2.2.1 k).2.2.1 step)/\0<=valF (nth zTrack p.2.2.2.2.2.2.2.1 k).2.2.1 step/\valF (nth zTrack p.2.2.2.2.2.2.2.1 k).2.2.1 step<=4503599627370496)/\(nth zTrack p.2.2.2.2.2.2.2.1 k).1=((k / 3:Nat):Int)/\(nth zTrack p.2.2.2.2.2.2.2.1 k).2.1=((k % 3:Nat):Int):=by
 have hn:=planD_ntracks h
 obtain⟨t1,t2,t3,t4,t5,t6⟩:=planD_tracks h k hk
 refine⟨track_at _ _ step t3 t4 t5 t6 (planD_head h).2 s0 s1,?_,?_⟩
 ·rw[t1,Int.tdiv_eq_ediv_of_nonneg (by omega),wr_id (by omega) (by omega)]
  rfl
 ·rw[t2,Int.tmod_eq_emod_of_nonneg (by omega)]
  rfl
theorem p_rowD(p:PlanD) (w:WfP p) (h:PlanOkD p) (step:Int) (s0:0<=step) (s1:step<p.1):plan_Row (p,step,())=some (rowS p step,0,()):=by
 have hn:=planD_ntracks h
 unfold plan_Row
 dsimp only
 rw[p_planD p w,if_pos h,bnd_mk,dT rfl,Bool.not_true,cnd_f]
 rw[grow_loop _ (fun k=>((p.2.2.2.2.2.2.2.1.take k).map (fun t=>valF t.2.2.1 step),(k:Int),(p.2.2.2.2.2.2.2.1.take k).map (fun t=>valF t.2.2.1 step),())) p.2.2.2.2.2.2.2.1.length (Sum.inl (rowS p step,rowS p step,()):(List Int×List Int×Unit) ⊕ (List Int×Int×Unit)) _ ?_ ?_ ?_]
 ·rfl
 ·rfl
 ·intro k hk
  obtain⟨⟨i,_,e1,_⟩,_⟩:=planD_track h step s0 s1 k hk
  dsimp only
  rw[lt_true hk,cnd_t,ati_d zTrack hk,bnd_mk,e1,bnd_mk,dT rfl,Bool.not_true,cnd_f,app_ok (by rw[List.length_map,List.length_take,List.length_singleton];omega),bnd_mk,wr_succ hk (by omega),List.take_succ_eq_append_getElem hk,List.map_append,show p.2.2.2.2.2.2.2.1[k]=nth zTrack p.2.2.2.2.2.2.2.1 k by simp [nth,List.getD,hk]]
  rfl
 ·dsimp only
  rw[lt_false,List.take_length]
  rfl
theorem rowS_len(p:PlanD) (step:Int):(rowS p step).length=p.2.2.2.2.2.2.2.1.length:=by
 unfold rowS
 rw[List.length_map]
theorem rowS_nth(p:PlanD) (step:Int) (k:Nat) (hk:k<p.2.2.2.2.2.2.2.1.length):nth 0 (rowS p step) k=valF (nth zTrack p.2.2.2.2.2.2.2.1 k).2.2.1 step:=by
 unfold rowS
 exact nth_map zTrack 0 _ hk
noncomputable def valT(p:PlanD) (c:CutSD) (step:Int) (n:Nat) (k:Nat):Int :=
 if isF p n (k / 3)=true then 0 else if k % 3=0/\p.2.2.2.2.2.2.2.2.2.2.2.2.2.1≠-1 then RateS c.2.2.1 (valF (nth zTrack p.2.2.2.2.2.2.2.1 k).2.2.1 step) p.2.2.2.2.2.2.2.2.2.1.2.2.2.2.2.2.1 else valF (nth zTrack p.2.2.2.2.2.2.2.1 k).2.2.1 step
noncomputable def ValS(p:PlanD) (c:CutSD) (step:Int) (n:Nat):List Int:=(List.range p.2.2.2.2.2.2.2.1.length).map (valT p c step n)
theorem valS_len(p:PlanD) (c:CutSD) (step:Int) (n:Nat):(ValS p c step n).length=p.2.2.2.2.2.2.2.1.length:=by
 unfold ValS
 rw[List.length_map,List.length_range]
theorem nth_range(n k:Nat) (h:k<n) (F:Nat->Int):nth 0 ((List.range n).map F) k=F k:=by
 simp [nth,List.getD,h]
theorem valS_nth(p:PlanD) (c:CutSD) (step:Int) (n:Nat) (k:Nat) (hk:k<p.2.2.2.2.2.2.2.1.length):nth 0 (ValS p c step n) k=valT p c step n k:=nth_range _ _ hk _
def ScOk(p:PlanD) (c:CutSD):Prop:=p.2.2.2.2.2.2.2.2.2.2.2.2.2.1≠-1->0<=c.2.2.1/\c.2.2.1<=4294967296/\0<=p.2.2.2.2.2.2.2.2.2.1.2.2.2.2.2.2.1
theorem scOk_of{p:PlanD} {s:StateD} (hp:PlanOkD p) (hs:StateOkD p s):ScOk p s.2.2.2.2.1/\-1<=p.2.2.2.2.2.2.2.2.2.2.2.2.2.1:=by
 obtain⟨_,_,_,_,_,h3,_,_⟩:=hp
 have h4:=hs.2.2.1
 unfold CutOk SeenOk at h3
 unfold CutSt CutStOk at h4
 refine⟨fun h=>?_,by omega⟩
 refine⟨?_,?_,?_⟩<;>omega
theorem r_values(p:PlanD) (c:CutSD) (h:PlanOkD p) (hc:ScOk p c) (step:Int) (s0:0<=step) (s1:step<p.1):q38_Values (p,c,step,())=some (ValS p c step (phN p.2.2.2.2.2.1 step)):=by
 have hn:=planD_ntracks h
 have hg:=planD_groups h
 have hf:=planD_frozen h
 have hph:=planD_phase h s0 s1
 unfold q38_Values ValS
 dsimp only
 rw[r_phase p h step s0 s1,bnd_mk]
 generalize phN p.2.2.2.2.2.1 step=n at *
 have hv:=hf.2 n (by omega)
 rw[ati_d [] (by omega:n<p.2.2.2.2.2.2.1.length),bnd_mk,grow_loop _ (fun k=>((List.range k).map (valT p c step n),(k:Int),())) p.2.2.2.2.2.2.2.1.length ((List.range p.2.2.2.2.2.2.2.1.length).map (valT p c step n),()) _ ?_ ?_ ?_]
 ·rfl
 ·rfl
 ·intro k hk
  obtain⟨⟨i,i1,_,e2,e3,v0,v1⟩,g1,g2⟩:=planD_track h step s0 s1 k hk
  dsimp only
  rw[lt_true hk,cnd_t,ati_d zTrack hk,bnd_mk,e2,bnd_mk,ati_d zSeg i1,bnd_mk,e3,bnd_mk,g1,g2,ati_d false (by omega:k / 3<(nth [] p.2.2.2.2.2.2.1 n).length),wr_succ hk (by omega),range_succ_map]
  rw[show nth false (nth [] p.2.2.2.2.2.2.1 n) (k / 3)=isF p n (k / 3) from rfl]
  have hx:∀ {β:Type} (K:Int×Unit->Option β),bnd (cnd (decide (((k % 3:Nat):Int)=0)) (some (!decide (p.2.2.2.2.2.2.2.2.2.2.2.2.2.1=(-1)))) (some false)) (fun j9=>bnd (cnd j9 (bnd (q31_Rate (c,valF (nth zTrack p.2.2.2.2.2.2.2.1 k).2.2.1 step,p.2.2.2.2.2.2.2.2.2.1.2.2.2.2.2.2.1,())) fun r11=>some (r11,())) (some (valF (nth zTrack p.2.2.2.2.2.2.2.1 k).2.2.1 step,()))) K)=K ((if k % 3=0/\p.2.2.2.2.2.2.2.2.2.2.2.2.2.1≠-1 then RateS c.2.2.1 (valF (nth zTrack p.2.2.2.2.2.2.2.1 k).2.2.1 step) p.2.2.2.2.2.2.2.2.2.1.2.2.2.2.2.2.1 else valF (nth zTrack p.2.2.2.2.2.2.2.1 k).2.2.1 step),()):=by
   intro β K
   by_cases h1:k % 3=0
   ·by_cases h2:p.2.2.2.2.2.2.2.2.2.2.2.2.2.1=-1
    ·rw[dT (by omega:((k % 3:Nat):Int)=0),dT h2,if_neg (fun q=>q.2 h2)];rfl
    ·have hc:=hc h2
     rw[dT (by omega:((k % 3:Nat):Int)=0),dF h2,if_pos ⟨h1,h2⟩,r_prate c _ _ hc.1 hc.2.1 v0 v1];rfl
   ·rw[dF (by omega:¬ ((k % 3:Nat):Int)=0),if_neg (fun q=>h1 q.1)];rfl
  refine(hx _).trans ?_
  rw[bnd_mk]
  have hy:∀ {β:Type} (a:Int) (K:Int×Unit->Option β),bnd (cnd (isF p n (k / 3)) (some ((0:Int),())) (some (a,()))) K=K ((if isF p n (k / 3)=true then 0 else a),()):=fun a K=>by cases isF p n (k / 3)<;>rfl
  refine(hy _ _).trans ?_
  rw[app_ok (by rw[List.length_map,List.length_range,List.length_singleton];omega)]
  rfl
 ·dsimp only
  rw[lt_false]
  rfl
theorem nth_app2(a b:List Int) (k:Nat):nth 0 (a++b) k=if k<a.length then nth 0 a k else nth 0 b (k-a.length):=by
 unfold nth
 rw[List.getD_eq_getElem?_getD,List.getElem?_append]
 split<;>rfl
theorem nth_drop2(l:List Int) (n k:Nat):nth 0 (l.drop n) k=nth 0 l (n+k):=by
 unfold nth
 rw[List.getD_eq_getElem?_getD,List.getElem?_drop]
 rfl
theorem nth_rep2(n k:Nat):nth 0 (List.replicate n (0:Int)) k=0:=by
 unfold nth
 rw[List.getD_eq_getElem?_getD,List.getElem?_replicate]
 split<;>rfl
theorem p_values(p:PlanD) (s:StateD) (w:WfP p) (h:PlanOkD p) (hc:ScOk p s.2.2.2.2.1) (ho:-1<=p.2.2.2.2.2.2.2.2.2.2.2.2.2.1) (s0:0<=s.1) (s1:s.1<p.1) (n:Nat) (hn:n=phN p.2.2.2.2.2.1 s.1):engine_values (p,s,(n:Int),())=some (ValS p s.2.2.2.2.1 s.1 n):=by
 have hnt:=planD_ntracks h
 have hg:=planD_groups h
 have hf:=planD_frozen h
 have hph:=planD_phase h s0 s1
 rw[← hn] at hph
 have hv:=hf.2 n (by omega)
 have hrl:=rowS_len p s.1
 have hvl:=valS_len p s.2.2.2.2.1 s.1 n
 unfold engine_values
 dsimp only
 rw[p_rowD p w h s.1 s0 s1,bnd_mk,ati_d [] (by omega:n<p.2.2.2.2.2.2.1.length),bnd_mk]
 dsimp only
 rw[grow_loop _ (fun g=>((g:Int),(ValS p s.2.2.2.2.1 s.1 n).take (3*g)++(rowS p s.1).drop (3*g),())) (nth [] p.2.2.2.2.2.2.1 n).length (ValS p s.2.2.2.2.1 s.1 n,()) _ ?_ ?_ ?_]
 ·rfl
 ·simp
 ·intro g hgk
  dsimp only
  rw[lt_true hgk,cnd_t,ati_d false hgk,bnd_mk,wr_id (x:=(g:Int)*3) (by omega) (by omega),wr_id (x:=(g:Int)*3+3) (by omega) (by omega),wr_id (x:=(g:Int)*3+0) (by omega) (by omega),wr_succ hgk (by omega),Int.add_zero]
  rw[show nth false (nth [] p.2.2.2.2.2.2.1 n) g=isF p n g from rfl]
  have hB:∀ k,3*g<=k->k<3*g+3->k / 3=g:=fun k _ _=>by omega
  have hlen:((ValS p s.2.2.2.2.1 s.1 n).take (3*g)++(rowS p s.1).drop (3*g)).length=p.2.2.2.2.2.2.2.1.length:=by rw[List.length_append,List.length_take,List.length_drop];omega
  have hnth:∀ k,k<p.2.2.2.2.2.2.2.1.length->nth 0 ((ValS p s.2.2.2.2.1 s.1 n).take (3*g)++(rowS p s.1).drop (3*g)) k=if k<3*g then valT p s.2.2.2.2.1 s.1 n k else valF (nth zTrack p.2.2.2.2.2.2.2.1 k).2.2.1 s.1:=by
   intro k hk
   rw[nth_app2,List.length_take]
   by_cases hc:k<3*g
   ·rw[if_pos (by omega),if_pos hc,nth_take _ _ _ _ hc]
    exact valS_nth p _ _ n k hk
   ·rw[if_neg (by omega),if_neg hc,nth_drop2,show 3*g+(k-min (3*g) (ValS p s.2.2.2.2.1 s.1 n).length)=k by omega]
    exact rowS_nth p _ k hk
  have hgoal:∀ l:List Int,l.length=p.2.2.2.2.2.2.2.1.length->(∀ k,k<p.2.2.2.2.2.2.2.1.length->nth 0 l k=if k<3*(g+1) then valT p s.2.2.2.2.1 s.1 n k else valF (nth zTrack p.2.2.2.2.2.2.2.1 k).2.2.1 s.1)->l=(ValS p s.2.2.2.2.1 s.1 n).take (3*(g+1))++(rowS p s.1).drop (3*(g+1)):=by
   intro l hl hk
   refine nth_ext 0 (by rw[List.length_append,List.length_take,List.length_drop];omega) fun k hkl=>?_
   rw[hk k (by omega),nth_app2,List.length_take]
   by_cases hc:k<3*(g+1)
   ·rw[if_pos hc,if_pos (by omega),nth_take _ _ _ _ hc]
    exact(valS_nth p _ _ n k (by omega)).symm
   ·rw[if_neg hc,if_neg (by omega),nth_drop2,show 3*(g+1)+(k-min (3*(g+1)) (ValS p s.2.2.2.2.1 s.1 n).length)=k by omega]
    exact(rowS_nth p _ k (by omega)).symm
  generalize (ValS p s.2.2.2.2.1 s.1 n).take (3*g)++(rowS p s.1).drop (3*g)=r at *
  cases hF:isF p n g with
  | true =>
   have hv:vw (List.length (rowS p s.1)) ((g:Int)*3) ((g:Int)*3+3)=some (true,(g:Int)*3,(g:Int)*3+3):=by
    unfold vw
    rw[if_pos (by omega)]
   have hcl:clr r ((g:Int)*3) ((g:Int)*3+3) 0=some (r.take (3*g)++List.replicate 3 0++r.drop (3*g+3)):=by
    unfold clr
    rw[if_pos (by omega),show((g:Int)*3).toNat=3*g by omega,show((g:Int)*3+3).toNat=3*g+3 by omega,show 3*g+3-3*g=3 by omega]
   rw[cnd_t,hv,bnd_mk]
   dsimp only
   rw[hcl,bnd_mk,bnd_mk]
   dsimp only
   rw[hgoal (r.take (3*g)++List.replicate 3 0++r.drop (3*g+3)) (by simp;omega) (fun k hk=>?_)]
   ·rfl
   have h1:=hnth k hk
   rw[nth_app2,nth_app2,List.length_append,List.length_take,List.length_replicate]
   by_cases c1:k<3*g
   ·rw[if_pos (by omega),if_pos (by omega),if_pos (by omega),nth_take _ _ _ _ c1,h1,if_pos c1]
   ·by_cases c2:k<3*g+3
    ·rw[if_pos (by omega),if_neg (by omega),if_pos (by omega),nth_rep2]
     unfold valT
     rw[hB k (by omega) c2,if_pos hF]
    ·rw[if_neg (by omega),if_neg (by omega),nth_drop2,show 3*g+3+(k-(min (3*g) r.length+3))=k by omega,h1,if_neg c1]
  | false =>
   rw[cnd_f]
   have hi:(3*g)<(rowS p s.1).length:=by omega
   rw[show(g:Int)*3=((3*g:Nat):Int) by omega,inR_ok hi,bnd_mk,ati_d 0 (by omega:3*g<r.length)]
   by_cases h2:p.2.2.2.2.2.2.2.2.2.2.2.2.2.1=-1
   ·rw[dF (by omega:¬ p.2.2.2.2.2.2.2.2.2.2.2.2.2.1>=0),cnd_f,bnd_mk,bnd_mk]
    dsimp only
    rw[hgoal r hlen (fun k hk=>?_)]
    ·rfl
    rw[hnth k hk]
    by_cases c1:k<3*g
    ·rw[if_pos c1,if_pos (by omega)]
    ·rw[if_neg c1]
     by_cases c2:k<3*(g+1)
     ·rw[if_pos c2]
      unfold valT
      rw[hB k (by omega) (by omega),if_neg (by rw[hF];exact Bool.false_ne_true),if_neg (fun q=>q.2 h2)]
     ·rw[if_neg c2]
   ·have hc:=hc h2
    have hr0:=hnth (3*g) (by omega)
    rw[if_neg (by omega)] at hr0
    obtain⟨⟨_,_,_,_,_,v0,v1⟩,_⟩:=planD_track h s.1 s0 s1 (3*g) (by omega)
    rw[dT (by omega:p.2.2.2.2.2.2.2.2.2.2.2.2.2.1>=0),cnd_t,bnd_mk,hr0,p_prate _ _ _ hc.1 hc.2.1 v0 v1,bnd_mk,bnd_mk,ati_d 0 (by omega:3*g<r.length),bnd_mk,bnd_mk,bnd_mk]
    dsimp only
    rw[Int.toNat_natCast,hgoal (r.set (3*g) (RateS s.2.2.2.2.1.2.2.1 (valF (nth zTrack p.2.2.2.2.2.2.2.1 (3*g)).2.2.1 s.1) p.2.2.2.2.2.2.2.2.2.1.2.2.2.2.2.2.1)) (by rw[List.length_set];omega) (fun k hk=>?_)]
    ·rfl
    rw[nth_set 0 _ _ _ _ (by omega)]
    by_cases c0:3*g=k
    ·rw[if_pos c0,if_pos (by omega)]
     subst c0
     unfold valT
     rw[hB (3*g) (by omega) (by omega),if_neg (by rw[hF];exact Bool.false_ne_true),if_pos ⟨by omega,h2⟩]
    ·rw[if_neg c0,hnth k hk]
     by_cases c1:k<3*g
     ·rw[if_pos c1,if_pos (by omega)]
     ·rw[if_neg c1]
      by_cases c2:k<3*(g+1)
      ·rw[if_pos c2]
       unfold valT
       rw[hB k (by omega) (by omega),if_neg (by rw[hF];exact Bool.false_ne_true),if_neg (fun q=>by have:=q.1;omega)]
      ·rw[if_neg c2]
 ·have e:(nth [] p.2.2.2.2.2.2.1 n).length*3=p.2.2.2.2.2.2.2.1.length:=by omega
  dsimp only
  rw[lt_false,cnd_f,List.take_of_length_le (by omega),List.drop_of_length_le (by omega),List.append_nil]
  rfl
end Go.Proofs.YtmomjjgokeffnaaGreat.F
namespace Go.Proofs.YtmomjjgokeffnaaGreat.F
open Go.VX
open Classical
abbrev OutD:=Int×Int×List Int×List Bool×List EvD×Int×Unit
abbrev zSt:StateD:=(0,0,0,(false,0,0,()),((false,0,0,()),0,0,()),[],[],(0,[],()),())
abbrev zOut:OutD:=(0,0,[],[],[],0,())
noncomputable def OutT(p:PlanD) (s:StateD) (x:InD):OutD:=(s.1,((phN p.2.2.2.2.2.1 s.1:Nat):Int),ValS p s.2.2.2.2.1 s.1 (phN p.2.2.2.2.2.1 s.1),nth [] p.2.2.2.2.2.2.1 (phN p.2.2.2.2.2.1 s.1),EvT p s x,(StT p s x).2.1,())
theorem p_goes(p:PlanD) (s:StateD) (w:WfP p) (h:InS s):engine_goes (p,s,())=some (if PlanOkD p/\StateOkD p s then(if s.2.1=0 then 0 else 10) else 1):=by
 unfold engine_goes
 dsimp only
 rw[p_stateD p s w h,bnd_mk]
 by_cases k:PlanOkD p/\StateOkD p s
 ·rw[if_pos k,if_pos k,dT rfl,Bool.not_true,cnd_f]
  by_cases g:s.2.1=0
  ·rw[if_pos g,dT g];rfl
  ·rw[if_neg g,dF g];rfl
 ·rw[if_neg k,if_neg k];rfl
theorem p_Step_no(p:PlanD) (s:StateD) (x:InD) (w:WfP p) (h:InS s) (hx:x.1.length<=1000) (hn:¬ (PlanOkD p/\StateOkD p s/\s.2.1=0/\InOk p x)):engine_Step (p,s,x,())=some (zSt,zOut,(if PlanOkD p/\InOk p x then(if StateOkD p s then 10 else 1) else 1),()):=by
 unfold engine_Step
 dsimp only
 rw[p_rcheck p x w hx,bnd_mk]
 by_cases k:PlanOkD p/\InOk p x
 ·rw[if_pos k,if_pos k,dT rfl,Bool.not_true,cnd_f,p_goes p s w h,bnd_mk]
  by_cases g:StateOkD p s
  ·rw[if_pos ⟨k.1,g⟩,if_pos g,if_neg (fun z=>hn ⟨k.1,g,z,k.2⟩)];rfl
  ·rw[if_neg (fun z=>g z.2),if_neg g];rfl
 ·rw[if_neg k,if_neg k];rfl
theorem dec_andn(A:Prop) (b:Bool) {i:Decidable (A/\b=false)} {j:Decidable A}:@decide (A/\b=false) i=(@decide A j&&!b):=by cases b<;>simp
section
variable {p:PlanD} {s:StateD} {x:InD} (H:StepH p s x)
include H
theorem p_Step(w:WfP p) (h:InS s):engine_Step (p,s,x,())=some (StT p s x,OutT p s x,0,()):=by
 have hr:=stepH_range H
 have hl:=stepH_len H
 have hc:=scOk_of H.hp H.hs
 have hph:=planD_phase H.hp hr.1 hr.2.1
 have hf:=planD_frozen H.hp
 have hsp:=planD_spans H.hp
 have hg:=planD_groups H.hp
 have hv:=hf.2 (phN p.2.2.2.2.2.1 s.1) (by omega)
 unfold engine_Step
 dsimp only
 rw[p_rcheck p x w (by omega),if_pos ⟨H.hp,H.hx⟩,bnd_mk,dT rfl,Bool.not_true,cnd_f,p_goes p s w h,if_pos ⟨H.hp,H.hs⟩,if_pos H.hg,bnd_mk,dT rfl,Bool.not_true,cnd_f,p_phase p H.hp s.1 hr.1 hr.2.1,bnd_mk,p_values p s w H.hp hc.1 hc.2 hr.1 hr.2.1 _ rfl,bnd_mk,ati_d [] (by omega:phN p.2.2.2.2.2.1 s.1<p.2.2.2.2.2.2.1.length),bnd_mk,show slices_Clone_bool_bool (nth [] p.2.2.2.2.2.2.1 (phN p.2.2.2.2.2.1 s.1),())=some (nth [] p.2.2.2.2.2.2.1 (phN p.2.2.2.2.2.1 s.1)) from clone_ok (nth [] p.2.2.2.2.2.2.1 (phN p.2.2.2.2.2.1 s.1)) _ (by omega),bnd_mk,p_run H _ rfl,bnd_mk]
 dsimp only
 rw[wr_id (x:=s.1+1) (by omega) (by omega)]
 unfold OutT
 have he:(StT p s x).1=s.1+1:=by unfold StT;split<;>rfl
 rw[← he]
theorem r_Look(em:List Int) (sm:SumD) (hk:LkN p s) :
  q38_Look (p,(s.1,s.2.1,s.2.2.1,s.2.2.2.1,s.2.2.2.2.1,s.2.2.2.2.2.1,em,sm,()),x,())=some ((s.1,if OutN p s x then 2 else s.2.1,if OutN p s x then s.1 else s.2.2.1,stopN p s x,cutN p s x,keptN p s x,em,sm,()),evM p s x++(evK p s x++(evD p s x++(evC p s x++evS p s x))),()):=by
 have hl:=stepH_len H
 have ho:=stepH_on H
 have hx1:=H.hx.1
 have hM:evG (missN p x) s.1 6 x.1.length=evM p s x:=by unfold evM;rw[if_pos hk]
 have hml:=evX_len H
 have hkl:(evK p s x).length<=1:=len_if1 _ _
 have hdl:(evD p s x).length<=1:=len_if1 _ _
 have hcl:(evC p s x).length<=1:=len_if1 _ _
 unfold q38_Look
 dsimp only
 rw[grow_loop _ (fun k=>(evG (missN p x) s.1 6 k,(k:Int),())) x.1.length (evG (missN p x) s.1 6 x.1.length,()) _ ?_ ?_ ?_]
 rotate_left
 ·rfl
 ·intro k hkl
  have hgl:=evG_len (missN p x) s.1 6 k
  dsimp only
  rw[dT (by omega:(k:Int)<p.2.2.1),cnd_t,app_ok (by rw[List.length_singleton];omega),wr_succ hkl (by omega)]
  simp only[evG]
  have hq:∀ {β:Type} (K:Bool->Option β),bnd (cnd (!decide (p.2.2.2.2.2.2.2.2.2.2.2.2.2.2.1=(k:Int))) (some (decide (p.2.2.2.2.2.2.2.2.2.2.2.2.2.1=(k:Int)))) (some true)) (fun j3=>bnd (cnd (!j3) (some (decide (p.2.2.2.2.2.2.2.2.2.2.2.2.1=(k:Int)))) (some true)) fun j4=>bnd (cnd j4 (bnd (ati x.1 (k:Int)) fun v5=>some (!v5.1)) (some false)) K)=K (decide (missN p x k)):=by
   intro β K
   rw[ati_d zRd hkl,show decide (missN p x k)=(decide (p.2.2.2.2.2.2.2.2.2.2.2.2.2.2.1=(k:Int)\/p.2.2.2.2.2.2.2.2.2.2.2.2.2.1=(k:Int)\/p.2.2.2.2.2.2.2.2.2.2.2.2.1=(k:Int))&&!(nth zRd x.1 k).1) from dec_andn _ _]
   simp only[bnd_mk]
   generalize (nth zRd x.1 k).1=b
   by_cases h3:p.2.2.2.2.2.2.2.2.2.2.2.2.2.2.1=(k:Int)
   ·rw[dT h3,dT (show p.2.2.2.2.2.2.2.2.2.2.2.2.2.2.1=(k:Int)\/p.2.2.2.2.2.2.2.2.2.2.2.2.2.1=(k:Int)\/p.2.2.2.2.2.2.2.2.2.2.2.2.1=(k:Int) from .inl h3)]
    cases b<;>rfl
   ·by_cases h2:p.2.2.2.2.2.2.2.2.2.2.2.2.2.1=(k:Int)
    ·rw[dF h3,dT h2,dT (show p.2.2.2.2.2.2.2.2.2.2.2.2.2.2.1=(k:Int)\/p.2.2.2.2.2.2.2.2.2.2.2.2.2.1=(k:Int)\/p.2.2.2.2.2.2.2.2.2.2.2.2.1=(k:Int) from .inr (.inl h2))]
     cases b<;>rfl
    ·by_cases h1:p.2.2.2.2.2.2.2.2.2.2.2.2.1=(k:Int)
     ·rw[dF h3,dF h2,dT h1,dT (show p.2.2.2.2.2.2.2.2.2.2.2.2.2.2.1=(k:Int)\/p.2.2.2.2.2.2.2.2.2.2.2.2.2.1=(k:Int)\/p.2.2.2.2.2.2.2.2.2.2.2.2.1=(k:Int) from .inr (.inr h1))]
      cases b<;>rfl
     ·rw[dF h3,dF h2,dF h1,dF (show ¬ (p.2.2.2.2.2.2.2.2.2.2.2.2.2.2.1=(k:Int)\/p.2.2.2.2.2.2.2.2.2.2.2.2.2.1=(k:Int)\/p.2.2.2.2.2.2.2.2.2.2.2.2.1=(k:Int)) from fun z=>z.elim h3 fun z=>z.elim h2 h1)]
      cases b<;>rfl
  refine(hq _).trans ?_
  by_cases hm:missN p x k
  ·rw[dT hm,if_pos hm];rfl
  ·rw[dF hm,if_neg hm,List.append_nil];rfl
 ·dsimp only
  rw[dF (by omega),cnd_f]
  rfl
 rw[hM,bnd_mk]
 dsimp only
 rw[r_seen x p.2.2.2.2.2.2.2.2.2.2.2.2.2.2.1 ho.2.2.2.2.2,bnd_mk,r_seen x p.2.2.2.2.2.2.2.2.2.2.2.2.2.1 ho.2.2.2.1,r_seen x p.2.2.2.2.2.2.2.2.2.2.2.2.1 ho.2.1]
 have s3:∀ {β:Type} (K:List EvD×StateD×Unit->Option β),bnd (cnd (decide (Seen x.1 p.2.2.2.2.2.2.2.2.2.2.2.2.2.2.1)) (bnd (ati x.1 p.2.2.2.2.2.2.2.2.2.2.2.2.2.2.1) fun v11=>bnd (q32_Put (s.2.2.2.2.2.1,(s.1,v11.2.1,()),p.2.2.2.2.2.2.2.2.2.2.1.2.2.2.1,p.2.2.2.2.2.2.2.2.2.2.1.2.2.1,())) fun r12=>bnd (cnd (!(!r12.2.2.1)) (some (!decide (r12.2.1.1=s.1))) (some true)) fun j13=>bnd (cnd j13 (bnd (app 5864062014805 (evM p s x) [(s.1,7,s.1,())]) fun v15=>some (v15,())) (some (evM p s x,()))) fun j14=>bnd (cnd r12.2.2.1 (some (!decide (r12.2.1.1=s.1))) (some false)) fun j16=>bnd (cnd j16 (bnd (app 5864062014805 j14.1 [(s.1,8,r12.2.1.1,())]) fun v18=>some (v18,())) (some (j14.1,()))) fun j17=>some (j17.1,(s.1,s.2.1,s.2.2.1,s.2.2.2.1,s.2.2.2.2.1,r12.1,em,sm,()),())) (some (evM p s x,(s.1,s.2.1,s.2.2.1,s.2.2.2.1,s.2.2.2.2.1,s.2.2.2.2.2.1,em,sm,()),()))) K=K (evM p s x++(evK p s x++evD p s x),(s.1,s.2.1,s.2.2.1,s.2.2.2.1,s.2.2.2.2.1,keptN p s x,em,sm,()),()):=by
  intro β K
  unfold keptN evK evD
  by_cases h:Seen x.1 p.2.2.2.2.2.2.2.2.2.2.2.2.2.2.1
  ·have hK:KeN p s x:=⟨hk,h⟩
   obtain⟨v,e1,e2⟩:=seen_at x p.2.2.2.2.2.2.2.2.2.2.2.2.2.2.1 ho.2.2.2.2.2 h
   rw[dT h,cnd_t,e1,bnd_mk,e2,r_bput _ _ _ _ (by omega),bnd_mk,show PutS p.2.2.2.2.2.2.2.2.2.2.1.2.2.1 p.2.2.2.2.2.2.2.2.2.2.1.2.2.2.1 s.2.2.2.2.2.1 (s.1,valR x.1 p.2.2.2.2.2.2.2.2.2.2.2.2.2.2.1,())=putN p s x from rfl,if_pos hK,if_and2 hK,if_and2 hK]
   generalize putN p s x=r
   obtain⟨l,⟨g,gv,_⟩,is,_⟩:=r
   dsimp only
   rw[app_ok (by rw[List.length_singleton];omega)]
   cases is with
   | false =>
    rw[if_pos (fun k:false=true/\g=s.1=>Bool.noConfusion k.1),if_neg (fun k:false=true/\g≠s.1=>Bool.noConfusion k.1),List.append_nil]
    rfl
   | true =>
    by_cases h:g=s.1
    ·rw[if_neg (fun k:¬ (true=true/\g=s.1)=>k ⟨rfl,h⟩),if_neg (fun k:true=true/\g≠s.1=>k.2 h),dT h,List.append_nil,List.append_nil]
     rfl
    ·rw[if_pos (fun k:true=true/\g=s.1=>h k.2),if_pos (show true=true/\g≠s.1 from⟨rfl,h⟩),dF h,← List.append_assoc]
     simp only[Bool.not_true,Bool.not_false,cnd_t,bnd_mk]
     rw[app_ok (by rw[List.length_append,List.length_singleton,List.length_singleton];omega)]
     rfl
  ·have hK:¬ KeN p s x:=fun k=>h k.2
   rw[dF h,cnd_f,if_neg hK,if_neg (fun k=>hK k.1),if_neg (fun k=>hK k.1),List.append_nil,List.append_nil]
   rfl
 refine(s3 _).trans ?_
 dsimp only
 rw[bnd_mk]
 obtain⟨eva,heva⟩:∃ e,e=evM p s x++(evK p s x++evD p s x):=⟨_,rfl⟩
 have hla:eva.length<=120:=by rw[heva,List.length_append,List.length_append];omega
 rw[← heva]
 have s2:∀ {β:Type} (K:List EvD×StateD×Unit->Option β),bnd (cnd (decide (Seen x.1 p.2.2.2.2.2.2.2.2.2.2.2.2.2.1)) (bnd (ati x.1 p.2.2.2.2.2.2.2.2.2.2.2.2.2.1) fun v21=>bnd (q31_Take (s.2.2.2.2.1,v21.2.1,p.2.2.2.2.2.2.2.2.2.1,())) fun r22=>bnd (cnd r22.2.1 (bnd (app 5864062014805 eva [(s.1,9,0,())]) fun v24=>some (v24,())) (some (eva,()))) fun j23=>some (j23.1,(s.1,s.2.1,s.2.2.1,s.2.2.2.1,r22.1,keptN p s x,em,sm,()),())) (some (eva,(s.1,s.2.1,s.2.2.1,s.2.2.2.1,s.2.2.2.2.1,keptN p s x,em,sm,()),()))) K=K (eva++evC p s x,(s.1,s.2.1,s.2.2.1,s.2.2.2.1,cutN p s x,keptN p s x,em,sm,()),()):=by
  intro β K
  unfold cutN evC
  by_cases h:Seen x.1 p.2.2.2.2.2.2.2.2.2.2.2.2.2.1
  ·have hC:CuN p s x:=⟨hk,h⟩
   obtain⟨c1,c2,c3,c4⟩:=stepH_cut H h
   obtain⟨v,e1,e2⟩:=seen_at x p.2.2.2.2.2.2.2.2.2.2.2.2.2.1 ho.2.2.2.1 h
   rw[dT h,cnd_t,e1,bnd_mk,e2,r_ptake s.2.2.2.2.1 _ p.2.2.2.2.2.2.2.2.2.1 (valR_in H.hi.xr ho.2.2.2.1 h) H.hi.cb c1 c3 c4 c2,bnd_mk,show TakeC s.2.2.2.2.1 (valR x.1 p.2.2.2.2.2.2.2.2.2.2.2.2.2.1) p.2.2.2.2.2.2.2.2.2.1=cutR p s x from rfl,if_pos hC,if_and2 hC]
   generalize cutR p s x=r
   obtain⟨c,is⟩:=r
   dsimp only
   rw[app_ok (by rw[List.length_singleton];omega)]
   cases is with
   | true=>rw[if_pos rfl];rfl
   | false=>rw[if_neg Bool.false_ne_true,List.append_nil];rfl
  ·have hC:¬ CuN p s x:=fun k=>h k.2
   rw[dF h,cnd_f,if_neg hC,if_neg (fun k=>hC k.1),List.append_nil]
   rfl
 refine(s2 _).trans ?_
 dsimp only
 rw[bnd_mk]
 obtain⟨evb,hevb⟩:∃ e,e=eva++evC p s x:=⟨_,rfl⟩
 have hlb:evb.length<=130:=by rw[hevb,List.length_append];omega
 rw[← hevb]
 have s1:∀ {β:Type} (K:List EvD×StateD×Unit->Option β),bnd (cnd (decide (Seen x.1 p.2.2.2.2.2.2.2.2.2.2.2.2.1)) (bnd (ati x.1 p.2.2.2.2.2.2.2.2.2.2.2.2.1) fun v27=>bnd (q30_Take (s.2.2.2.1,v27.2.1,(p.2.2.2.2.2.2.2.2.1.2.2.1,p.2.2.2.2.2.2.2.2.1.2.2.2.2.1,p.2.2.2.2.2.2.2.2.1.2.2.2.2.2.1,()),())) fun r28=>bnd (cnd (decide (r28.2.2.1>=p.2.2.2.2.2.2.2.2.1.2.2.2.1)) (bnd (app 5864062014805 evb [(s.1,10,0,())]) fun v30=>some (v30,((s.1,2,s.1,r28,cutN p s x,keptN p s x,em,sm,()):StateD),())) (some (evb,(s.1,s.2.1,s.2.2.1,r28,cutN p s x,keptN p s x,em,sm,()),()))) fun(j29:List EvD×StateD×Unit)=>some (j29.1,j29.2.1,())) (some (evb,(s.1,s.2.1,s.2.2.1,s.2.2.2.1,cutN p s x,keptN p s x,em,sm,()),()))) K=K (evb++evS p s x,(s.1,if OutN p s x then 2 else s.2.1,if OutN p s x then s.1 else s.2.2.1,stopN p s x,cutN p s x,keptN p s x,em,sm,()),()):=by
  intro β K
  unfold evS OutN stopN
  by_cases h:Seen x.1 p.2.2.2.2.2.2.2.2.2.2.2.2.1
  ·have hS:StN p s x:=⟨hk,h⟩
   obtain⟨c1,c2⟩:=stepH_stop H h
   obtain⟨v,e1,e2⟩:=seen_at x p.2.2.2.2.2.2.2.2.2.2.2.2.1 ho.2.1 h
   rw[dT h,cnd_t,e1,bnd_mk,e2,r_etake s.2.2.2.1 _ (p.2.2.2.2.2.2.2.2.1.2.2.1,p.2.2.2.2.2.2.2.2.1.2.2.2.2.1,p.2.2.2.2.2.2.2.2.1.2.2.2.2.2.1,()) (valR_in H.hi.xr ho.2.1 h) H.hi.sb c1,bnd_mk,if_pos hS,if_and2 hS,if_and2 hS,if_and2 hS,app_ok (by rw[List.length_singleton];omega)]
   generalize TakeW s.2.2.2.1 (valR x.1 p.2.2.2.2.2.2.2.2.2.2.2.2.1) (p.2.2.2.2.2.2.2.2.1.2.2.1,p.2.2.2.2.2.2.2.2.1.2.2.2.2.1,p.2.2.2.2.2.2.2.2.1.2.2.2.2.2.1,())=r
   by_cases g:p.2.2.2.2.2.2.2.2.1.2.2.2.1<=r.2.2.1
   ·rw[dT (show r.2.2.1>=p.2.2.2.2.2.2.2.2.1.2.2.2.1 from g),if_pos g,if_pos g,if_pos g];rfl
   ·rw[dF (show ¬ r.2.2.1>=p.2.2.2.2.2.2.2.2.1.2.2.2.1 from g),if_neg g,if_neg g,if_neg g,List.append_nil];rfl
  ·have hS:¬ StN p s x:=fun k=>h k.2
   rw[dF h,cnd_f,if_neg hS,if_neg (fun k=>hS k.1),if_neg (fun k=>hS k.1),if_neg (fun k=>hS k.1),List.append_nil]
   rfl
 refine(s1 _).trans ?_
 rw[hevb,heva]
 simp only[List.append_assoc]
theorem r_Step:q38_Step (p,s,x,())=some (StT p s x,OutT p s x,()):=by
 have hr:=stepH_range H
 have hl:=stepH_len H
 have hc:=scOk_of H.hp H.hs
 have hph:=planD_phase H.hp hr.1 hr.2.1
 have hf:=planD_frozen H.hp
 have ha:=planD_avg H.hp
 have hev:=planD_eval H.hp
 have hbl:=evB_len p H.hp s.1 (phN p.2.2.2.2.2.1 s.1)
 have hml:=evX_len H
 have hkl:(evK p s x).length<=1:=len_if1 _ _
 have hdl:(evD p s x).length<=1:=len_if1 _ _
 have hcl:(evC p s x).length<=1:=len_if1 _ _
 have hsl:(evS p s x).length<=1:=len_if1 _ _
 have hwl:(evW p s).length<=1:=len_if1 _ _
 obtain⟨c0,c1,c2,c3⟩:=stepH_sums H
 obtain⟨r,e,f1,f2⟩:=r_sadd s.2.2.2.2.2.2.2.1 x.2.1 c0 c1 c3 (by omega) H.hi.sm H.hi.xw
 unfold q38_Step
 dsimp only
 rw[r_phase p H.hp s.1 hr.1 hr.2.1,bnd_mk,r_values p s.2.2.2.2.1 H.hp hc.1 s.1 hr.1 hr.2.1,bnd_mk,ati_d [] (by omega:phN p.2.2.2.2.2.1 s.1<p.2.2.2.2.2.2.1.length),bnd_mk,r_begins p H.hp s.1 hr.1 hr.2.1,bnd_mk,r_swa p p.2.2.2.2.2.2.2.2.2.2.2.2.2.2.2.1 p.2.2.2.2.2.2.2.2.2.2.2.2.2.2.2.2.1 s.1 rfl rfl ha.1 (by omega) hr.1 (by omega) (by omega),bnd_mk,wr_id (x:=s.1+1) (by omega) (by omega)]
 unfold OutT EvT
 generalize phN p.2.2.2.2.2.1 s.1=n at *
 obtain⟨vs,hvs⟩:∃ l,l=ValS p s.2.2.2.2.1 s.1 n:=⟨_,rfl⟩
 rw[← hvs]
 by_cases hF:FailN p s x
 ·have hSt:StT p s x=(s.1+1,3,s.1,s.2.2.2.1,s.2.2.2.2.1,s.2.2.2.2.2.1,s.2.2.2.2.2.2.1,s.2.2.2.2.2.2.2.1,()):=by unfold StT;rw[if_pos hF]
  rw[hSt,dT (show SwaP p.2.2.2.2.2.2.2.2.2.2.2.2.2.2.2.1 p.2.2.2.2.2.2.2.2.2.2.2.2.2.2.2.2.1 s.1 from hF.1),cnd_t,e,bnd_mk,dF (f1 hF.2),Bool.not_false,cnd_t,app_ok (by rw[List.length_singleton];omega),if_pos hF]
  rfl
 have hSt:StT p s x=(s.1+1,if OutN p s x then 2 else if s.1+1=p.1 then 1 else 0,if OutN p s x then s.1 else if s.1+1=p.1 then s.1 else s.2.2.1,stopN p s x,cutN p s x,keptN p s x,emaN p s x,swaN p s x,()):=by unfold StT;rw[if_neg hF]
 rw[hSt,if_neg hF]
 have hW:∀ (K:StateD×OutD×Unit->Option (StateD×OutD×Unit)),bndS (cnd (decide (SwaP p.2.2.2.2.2.2.2.2.2.2.2.2.2.2.2.1 p.2.2.2.2.2.2.2.2.2.2.2.2.2.2.2.2.1 s.1)) (bnd (q34_Add (s.2.2.2.2.2.2.2.1,x.2.1,())) fun r7=>cnd (!decide (r7.2.1=0)) (bnd (app 5864062014805 (evB p s.1 n) [(s.1,5,0,())]) fun v8=>inrE (some ((s.1+1,3,s.1,s.2.2.2.1,s.2.2.2.2.1,s.2.2.2.2.2.1,s.2.2.2.2.2.2.1,s.2.2.2.2.2.2.2.1,()),(s.1,(n:Int),vs,nth [] p.2.2.2.2.2.2.1 n,v8,3,()),()))) (bnd (app 5864062014805 (evB p s.1 n) [(s.1,4,s.2.2.2.2.2.2.2.1.1,())]) fun v9=>inlE ((s.1,s.2.1,s.2.2.1,s.2.2.2.1,s.2.2.2.2.1,s.2.2.2.2.2.1,s.2.2.2.2.2.2.1,r7.1,()),(s.1,(n:Int),vs,nth [] p.2.2.2.2.2.2.1 n,v9,0,()),()))) (inlE (s,(s.1,(n:Int),vs,nth [] p.2.2.2.2.2.2.1 n,evB p s.1 n,0,()),()))) K=K ((s.1,s.2.1,s.2.2.1,s.2.2.2.1,s.2.2.2.2.1,s.2.2.2.2.2.1,s.2.2.2.2.2.2.1,swaN p s x,()),(s.1,(n:Int),vs,nth [] p.2.2.2.2.2.2.1 n,evB p s.1 n++evW p s,0,()),()):=by
  intro K
  unfold swaN evW
  by_cases h:SwN p s
  ·have hr:=f2 (fun k=>hF ⟨h,k⟩)
   subst hr
   rw[dT (show SwaP p.2.2.2.2.2.2.2.2.2.2.2.2.2.2.2.1 p.2.2.2.2.2.2.2.2.2.2.2.2.2.2.2.2.1 s.1 from h),cnd_t,e,bnd_mk,dT rfl,Bool.not_true,cnd_f,app_ok (by rw[List.length_singleton];omega),if_pos h,if_pos h]
   rfl
  ·rw[dF (show ¬ SwaP p.2.2.2.2.2.2.2.2.2.2.2.2.2.2.2.1 p.2.2.2.2.2.2.2.2.2.2.2.2.2.2.2.2.1 s.1 from h),cnd_f,if_neg h,if_neg h,List.append_nil]
   rfl
 refine(hW _).trans ?_
 dsimp only
 have hE:∀ (K:StateD×Unit->Option (StateD×OutD×Unit)),bnd (cnd p.2.2.2.2.2.2.2.2.2.2.2.1.1 (bnd (q33_Take (s.2.2.2.2.2.2.1,x.2.1,p.2.2.2.2.2.2.2.2.2.2.2.1.2.1,())) fun r11=>some ((s.1,s.2.1,s.2.2.1,s.2.2.2.1,s.2.2.2.2.1,s.2.2.2.2.2.1,r11,swaN p s x,()),())) (some ((s.1,s.2.1,s.2.2.1,s.2.2.2.1,s.2.2.2.2.1,s.2.2.2.2.2.1,s.2.2.2.2.2.2.1,swaN p s x,()),()))) K=K ((s.1,s.2.1,s.2.2.1,s.2.2.2.1,s.2.2.2.2.1,s.2.2.2.2.2.1,emaN p s x,swaN p s x,()),()):=by
  intro K
  unfold emaN
  by_cases h:p.2.2.2.2.2.2.2.2.2.2.2.1.1=true
  ·have hd:=planD_ema H.hp h
   rw[h,cnd_t,r_ema s.2.2.2.2.2.2.1 x.2.1 p.2.2.2.2.2.2.2.2.2.2.2.1.2.1 hd.1 hd.2 (by omega) (stepH_ema H) H.hi.em H.hi.xw,if_pos rfl]
   rfl
  ·rw[show p.2.2.2.2.2.2.2.2.2.2.2.1.1=false by cases hh:p.2.2.2.2.2.2.2.2.2.2.2.1.1 with | false=>rfl | true=>exact(h hh).elim,cnd_f,if_neg Bool.false_ne_true]
   rfl
 refine(hE _).trans ?_
 rw[r_looked p p.2.2.2.2.1 s.1 rfl hr.1 (by omega),bnd_mk]
 dsimp only
 have hL:∀ (K:StateD×OutD×Unit->Option (StateD×OutD×Unit)),bnd (cnd (decide (LookedP p.2.2.2.2.1 s.1)) (bnd (q38_Look (p,(s.1,s.2.1,s.2.2.1,s.2.2.2.1,s.2.2.2.2.1,s.2.2.2.2.2.1,emaN p s x,swaN p s x,()),x,())) fun r14=>bnd (app 5864062014805 (evB p s.1 n++evW p s) r14.2.1) fun v15=>some (r14.1,(s.1,(n:Int),vs,nth [] p.2.2.2.2.2.2.1 n,v15,0,()),())) (some ((s.1,s.2.1,s.2.2.1,s.2.2.2.1,s.2.2.2.2.1,s.2.2.2.2.2.1,emaN p s x,swaN p s x,()),(s.1,(n:Int),vs,nth [] p.2.2.2.2.2.2.1 n,evB p s.1 n++evW p s,0,()),()))) K=K ((s.1,if OutN p s x then 2 else s.2.1,if OutN p s x then s.1 else s.2.2.1,stopN p s x,cutN p s x,keptN p s x,emaN p s x,swaN p s x,()),(s.1,(n:Int),vs,nth [] p.2.2.2.2.2.2.1 n,evB p s.1 n++evW p s++(evM p s x++(evK p s x++(evD p s x++(evC p s x++evS p s x)))),0,()),()):=by
  intro K
  by_cases k:LkN p s
  ·rw[dT (show LookedP p.2.2.2.2.1 s.1 from k),cnd_t,r_Look H _ _ k,bnd_mk]
   dsimp only
   rw[app_ok (by simp only[List.length_append];omega),bnd_mk,bnd_mk]
  ·have k1:¬ KeN p s x:=fun h=>k h.1
   have k2:¬ CuN p s x:=fun h=>k h.1
   have k3:¬ StN p s x:=fun h=>k h.1
   have k4:¬ OutN p s x:=fun h=>k3 h.1
   unfold evM evK evD evC evS stopN cutN keptN
   rw[dF (show ¬ LookedP p.2.2.2.2.1 s.1 from k),cnd_f,bnd_mk,if_neg k4,if_neg k4,if_neg k3,if_neg k2,if_neg k1,if_neg k,if_neg (fun h=>k1 h.1),if_neg (fun h=>k1 h.1),if_neg (fun h=>k2 h.1),if_neg k4]
   simp only[List.append_nil]
 refine(hL _).trans ?_
 dsimp only
 unfold evE
 rw[H.hg]
 by_cases k:s.1+1=p.1
 ·rw[dT k,cnd_t,if_pos k,if_pos k,if_pos k,app_ok (by
   simp only[List.length_append,List.length_singleton]
   omega),bnd_mk]
  by_cases ho:OutN p s x
  ·rw[if_pos ho,if_pos ho,if_pos ho,if_pos ho]
   simp only[List.append_assoc]
   rfl
  ·rw[if_neg ho,if_neg ho,if_neg ho,if_neg ho]
   simp only[List.append_assoc]
   rfl
 ·rw[dF k,cnd_f,if_neg k,if_neg k,if_neg k,bnd_mk]
  simp only[List.append_assoc,List.append_nil]
end
end Go.Proofs.YtmomjjgokeffnaaGreat.F
namespace Go.Proofs.YtmomjjgokeffnaaGreat.F
open Go.VX
open Classical
theorem r_same27(a b:List EvD) (hl:a.length<=9223372036854775807):q27_Same (a,b,())=some (decide (a=b)):=by
 unfold q27_Same
 by_cases h:a.length=b.length
 ·rcases eq_loop (eqT (.pr (.int .i64) (.pr (.int .i64) (.pr (.int .i64) .unit)))) (eqT_iff _ rfl) a b h hl false (fun _=>some true) with⟨h1,h2⟩ | ⟨h1,h2⟩
  ·dsimp only
   rw[len_nat,dT h,dT h1]
   exact h2
  ·dsimp only
   rw[len_nat,dT h,dF h1]
   exact h2
 ·dsimp only
  rw[len_nat,dF h,dF (fun e=>h (by rw[e]))]
  rfl
theorem r_sameO(A B:OutD) (hv:A.2.2.1.length<=9223372036854775807) (hf:A.2.2.2.1.length<=9223372036854775807) (he:A.2.2.2.2.1.length<=9223372036854775807):q38_Same (A,B,())=some (decide (A=B)):=by
 obtain⟨a1,a2,a3,a4,a5,a6,_⟩:=A
 obtain⟨b1,b2,b3,b4,b5,b6,_⟩:=B
 dsimp only at hv hf he
 have no:∀ {z:Option Bool},z=some false->¬ ((a1,a2,a3,a4,a5,a6,()):OutD)=(b1,b2,b3,b4,b5,b6,())->z=some (decide (((a1,a2,a3,a4,a5,a6,()):OutD)=(b1,b2,b3,b4,b5,b6,()))):=fun e h=>e.trans (congrArg some (dec_no h))
 unfold q38_Same
 dsimp only
 rw[len_nat]
 by_cases h1:a1=b1
 rotate_left
 ·rw[dF h1];exact no rfl (fun k=>h1 (by injection k))
 by_cases h2:a2=b2
 rotate_left
 ·rw[dT h1,dF h2];exact no rfl (fun k=>h2 (by injection k with _ k;injection k))
 by_cases h6:a6=b6
 rotate_left
 ·rw[dT h1,dT h2,dF h6];exact no rfl (fun k=>h6 (by simp only[Prod.mk.injEq] at k;exact k.2.2.2.2.2.1))
 by_cases h4:a4.length=b4.length
 rotate_left
 ·rw[dT h1,dT h2,dT h6,dF h4];exact no rfl (fun k=>h4 (by simp only[Prod.mk.injEq] at k;rw[k.2.2.2.1]))
 rw[dT h1,dT h2,dT h6,dT h4]
 simp only[Bool.not_true,Bool.not_false,cnd_t,cnd_f,bnd_mk]
 rw[r_same01 a3 b3 hv,r_same27 a5 b5 he]
 rcases eq_loop (fun x y:Bool=>decide (x=y)) (fun x y=>by simp) a4 b4 h4 hf false (fun _=>bnd (some (decide (a3=b3))) fun r8=>bnd (cnd r8 (bnd (some (decide (a5=b5))) fun r9=>some r9) (some false)) fun j10=>some j10) with⟨h5,e⟩ | ⟨h5,e⟩
 ·refine e.trans ?_
  subst h1 h2 h6 h5
  by_cases h3:a3=b3
  ·subst h3
   by_cases h7:a5=b5
   ·subst h7
    rw[dT rfl,dT rfl]
    exact congrArg some (dec_yes rfl)
   ·rw[dT rfl,dF h7]
    exact no rfl (fun k=>h7 (by simp only[Prod.mk.injEq] at k;exact k.2.2.2.2.1))
  ·rw[dF h3]
   exact no rfl (fun k=>h3 (by simp only[Prod.mk.injEq] at k;exact k.2.2.1))
 ·exact no e (fun k=>h5 (by simp only[Prod.mk.injEq] at k;exact k.2.2.2.1))
theorem evT_len(p:PlanD) (s:StateD) (x:InD) (H:StepH p s x):(EvT p s x).length<=40:=by
 have hbl:=evB_len p H.hp s.1 (phN p.2.2.2.2.2.1 s.1)
 have hml:=evX_len H
 have hkl:(evK p s x).length<=1:=len_if1 _ _
 have hdl:(evD p s x).length<=1:=len_if1 _ _
 have hcl:(evC p s x).length<=1:=len_if1 _ _
 have hsl:(evS p s x).length<=1:=len_if1 _ _
 have hwl:(evW p s).length<=1:=len_if1 _ _
 have hel:(evE p s).length<=1:=len_if1 _ _
 unfold EvT
 split
 ·simp only[List.length_append,List.length_singleton];omega
 ·simp only[List.length_append];omega
theorem outT_len(p:PlanD) (s:StateD) (x:InD) (H:StepH p s x):(OutT p s x).2.2.1.length<=24/\(OutT p s x).2.2.2.1.length<=8/\(OutT p s x).2.2.2.2.1.length<=40:=by
 have hr:=stepH_range H
 have hnt:=planD_ntracks H.hp
 have hg:=planD_groups H.hp
 have hf:=planD_frozen H.hp
 have hph:=planD_phase H.hp hr.1 hr.2.1
 have hv:=hf.2 (phN p.2.2.2.2.2.1 s.1) (by omega)
 have hvl:=valS_len p s.2.2.2.2.1 s.1 (phN p.2.2.2.2.2.1 s.1)
 unfold OutT
 exact⟨by dsimp only;omega,by dsimp only;omega,evT_len p s x H⟩
theorem stT_ins(p:PlanD) (s:StateD) (x:InD) (H:StepH p s x) (hI:InS s):InS (StT p s x):=by
 have hr:=stepH_range H
 have hl:=stepH_len H
 have hs:=stateD_len H.hp (step_ok p s x H.hp H.hs H.hg H.hx.2.1 (stepH_on H).1)
 have h1:(StT p s x).1=s.1+1:=by unfold StT;split<;>rfl
 refine⟨?_,by omega,by omega,by omega,?_⟩
 ·rw[h1];unfold In64;omega
 ·have hk:KRange (keptN p s x):=by
   unfold keptN
   by_cases h:KeN p s x
   ·rw[if_pos h]
    have hv:=valR_in H.hi.xr (stepH_on H).2.2.2.2.2 h.2
    unfold putN PutS
    have hput:∀ y∈putL' p.2.2.2.2.2.2.2.2.2.2.1.2.2.1 s.2.2.2.2.2.1 (s.1,valR x.1 p.2.2.2.2.2.2.2.2.2.2.2.2.2.2.1,()),In64 y.2.1:=by
     intro y hy
     unfold putL' at hy
     rcases List.mem_append.1 hy with hy | hy
     ·rcases List.mem_append.1 hy with hy | hy
      ·exact H.hi.kr y (List.mem_of_mem_take hy)
      ·rw[List.mem_singleton] at hy
       rw[hy];exact hv
     ·exact H.hi.kr y (List.mem_of_mem_drop hy)
    split
    ·exact hput
    ·exact fun y hy=>hput y (List.mem_of_mem_take hy)
   ·rw[if_neg h];exact H.hi.kr
  unfold StT
  split
  ·exact H.hi.kr
  ·exact hk
end Go.Proofs.YtmomjjgokeffnaaGreat.F
namespace Go.Proofs.YtmomjjgokeffnaaGreat.F
open Go.VX
open Classical
abbrev RunD:=List OutD×StateD×Int×Unit
noncomputable def RunL(p:PlanD):StateD->List InD->RunD
 | s,[]=>([],s,0,())
 | s,x::l=>if s.2.1=0 then(if InOk p x then(if(RunL p (StT p s x) l).2.2.1=0 then(OutT p s x::(RunL p (StT p s x) l).1,(RunL p (StT p s x) l).2.1,0,()) else([],zSt,1,())) else([],zSt,1,())) else([],s,0,())
structure InV (s:StateD):Prop where
 sb:In64 s.2.2.2.1.2.1
 cb:In64 s.2.2.2.2.1.1.2.1
 em:Rng s.2.2.2.2.2.2.1
 sm:Rng s.2.2.2.2.2.2.2.1.2.1
 kr:KRange s.2.2.2.2.2.1
structure InX (x:InD):Prop where
 xr:∀ y∈x.1,In64 y.2.1
 xw:Rng x.2.1
theorem inE_mk{s:StateD} {x:InD} (h:InV s) (k:InX x):InE s x:=⟨h.sb,h.cb,h.em,h.sm,h.kr,k.xr,k.xw⟩
theorem take_in{w:WatchD} {v:Int} {r:RuleD} (hw:In64 w.2.1) (hv:In64 v):In64 (TakeW w v r).2.1:=by
 unfold TakeW
 split
 ·exact hv
 ·exact hw
theorem stT_inv(p:PlanD) (s:StateD) (x:InD) (H:StepH p s x):InV (StT p s x):=by
 have ho:=stepH_on H
 have hl:=stepH_len H
 unfold StT
 by_cases hF:FailN p s x
 ·rw[if_pos hF]
  exact⟨H.hi.sb,H.hi.cb,H.hi.em,H.hi.sm,H.hi.kr⟩
 rw[if_neg hF]
 refine⟨?_,?_,?_,?_,?_⟩
 ·dsimp only
  unfold stopN
  by_cases h:StN p s x
  ·rw[if_pos h];exact take_in H.hi.sb (valR_in H.hi.xr ho.2.1 h.2)
  ·rw[if_neg h];exact H.hi.sb
 ·dsimp only
  unfold cutN
  by_cases h:CuN p s x
  ·rw[if_pos h]
   have hv:=valR_in H.hi.xr ho.2.2.2.1 h.2
   have ht:=take_in (r:=(p.2.2.2.2.2.2.2.2.2.1.2.2.1,p.2.2.2.2.2.2.2.2.2.1.2.2.2.2.2.2.2.1,false,())) H.hi.cb hv
   unfold cutR TakeC
   split
   ·exact ht
   ·split
    ·exact ht
    ·exact ht
  ·rw[if_neg h];exact H.hi.cb
 ·dsimp only
  unfold emaN
  by_cases h:p.2.2.2.2.2.2.2.2.2.2.2.1.1=true
  ·rw[if_pos h]
   have hd:=planD_ema H.hp h
   unfold EmaS
   by_cases h0:s.2.2.2.2.2.2.1.length=0
   ·rw[if_pos h0];exact H.hi.xw
   ·rw[if_neg h0]
    have hle:=stepH_ema H
    intro y hy
    obtain⟨i,hi,rfl⟩:=List.mem_map.1 hy
    rw[List.mem_range] at hi
    have h1:=rng_nth H.hi.xw hi
    have h2:=rng_nth H.hi.em (show i<s.2.2.2.2.2.2.1.length by omega)
    have h3:=lerp_in (nth 0 x.2.1 i) (nth 0 s.2.2.2.2.2.2.1 i) p.2.2.2.2.2.2.2.2.2.2.2.1.2.1 hd.1 hd.2
    unfold In64 at *
    rcases (by omega:nth 0 x.2.1 i<=nth 0 s.2.2.2.2.2.2.1 i\/nth 0 s.2.2.2.2.2.2.1 i<=nth 0 x.2.1 i) with k | k
    ·have:=h3.1 k;omega
    ·have:=h3.2 k;omega
  ·rw[if_neg h];exact H.hi.em
 ·dsimp only
  unfold swaN
  by_cases h:SwN p s
  ·rw[if_pos h]
   unfold SumS
   dsimp only
   by_cases h0:s.2.2.2.2.2.2.2.1.1=0
   ·rw[if_pos h0];exact H.hi.xw
   ·rw[if_neg h0]
    intro y hy
    obtain⟨i,hi,rfl⟩:=List.mem_map.1 hy
    rw[List.mem_range] at hi
    by_cases hin:In64 (nth 0 s.2.2.2.2.2.2.2.1.2.1 i+nth 0 x.2.1 i)
    ·exact hin
    ·exact(hF ⟨h,h0,i,hi,hin⟩).elim
  ·rw[if_neg h];exact H.hi.sm
 ·have:=stT_ins p s x H ⟨by have:=stepH_range H;unfold In64;omega,by omega,by have:=stateD_len H.hp H.hs;omega,by have:=stateD_len H.hp H.hs;omega,H.hi.kr⟩
  have:=this.kr
  unfold StT at this
  rw[if_neg hF] at this
  exact this
structure Good (p:PlanD) (s:StateD):Prop where
 ok:StateOkD p s
 ins:InS s
 inv:InV s
theorem good_step{p:PlanD} {s:StateD} {x:InD} (hp:PlanOkD p) (g:Good p s) (hg:s.2.1=0) (hx:InOk p x) (kx:InX x):StepH p s x/\Good p (StT p s x):=by
 have H:StepH p s x:=⟨hp,g.ok,hg,hx,inE_mk g.inv kx⟩
 exact⟨H,step_ok p s x hp g.ok hg hx.2.1 (stepH_on H).1,stT_ins p s x H g.ins,stT_inv p s x H⟩
theorem run_good{p:PlanD} (hp:PlanOkD p):∀ (l:List InD) (s:StateD),Good p s->(∀ x∈l,InX x)->(RunL p s l).2.2.1=0->Good p (RunL p s l).2.1
 | [],s,g,_,_=>g
 | x::l,s,g,hx,h=>by
  unfold RunL at h ⊢
  by_cases h0:s.2.1=0
  ·rw[if_pos h0] at h ⊢
   by_cases h1:InOk p x
   ·rw[if_pos h1] at h ⊢
    by_cases h2:(RunL p (StT p s x) l).2.2.1=0
    ·rw[if_pos h2]
     exact run_good hp l _ (good_step hp g h0 h1 (hx x (by simp))).2 (fun y hy=>hx y (by simp [hy])) h2
    ·rw[if_neg h2] at h;exact absurd h (by decide)
   ·rw[if_neg h1] at h;exact absurd h (by decide)
  ·rw[if_neg h0];exact g
theorem run_err{p:PlanD}:∀ (l:List InD) (s:StateD),(RunL p s l).2.2.1=0\/RunL p s l=([],zSt,1,())
 | [],s=>.inl rfl
 | x::l,s=>by
  unfold RunL
  by_cases h0:s.2.1=0
  ·rw[if_pos h0]
   by_cases h1:InOk p x
   ·rw[if_pos h1]
    by_cases h2:(RunL p (StT p s x) l).2.2.1=0
    ·rw[if_pos h2];exact .inl rfl
    ·rw[if_neg h2];exact .inr rfl
   ·rw[if_neg h1];exact .inr rfl
  ·rw[if_neg h0];exact .inl rfl
theorem run_lens{p:PlanD} (hp:PlanOkD p):∀ (l:List InD) (s:StateD),Good p s->(∀ x∈l,InX x)->(RunL p s l).1.length<=l.length/\∀ o∈(RunL p s l).1,o.2.2.1.length<=24/\o.2.2.2.1.length<=8/\o.2.2.2.2.1.length<=40
 | [],s,_,_=>⟨Nat.le_refl _,fun o ho=>by cases ho⟩
 | x::l,s,g,hx=>by
  unfold RunL
  by_cases h0:s.2.1=0
  ·rw[if_pos h0]
   by_cases h1:InOk p x
   ·rw[if_pos h1]
    have hs:=good_step hp g h0 h1 (hx x (by simp))
    have ih:=run_lens hp l _ hs.2 (fun y hy=>hx y (by simp [hy]))
    by_cases h2:(RunL p (StT p s x) l).2.2.1=0
    ·rw[if_pos h2]
     refine⟨by simp only[List.length_cons];omega,fun o ho=>?_⟩
     rcases List.mem_cons.1 ho with rfl | ho
     ·exact outT_len p s x hs.1
     ·exact ih.2 o ho
    ·rw[if_neg h2];exact⟨by simp,fun o ho=>by cases ho⟩
   ·rw[if_neg h1];exact⟨by simp,fun o ho=>by cases ho⟩
  ·rw[if_neg h0];exact⟨by simp,fun o ho=>by cases ho⟩
theorem p_rstep{p:PlanD} {s:StateD} {x:InD} (w:WfP p) (hp:PlanOkD p) (g:Good p s) (hg:s.2.1=0) (kx:InX x) (hl:x.1.length<=1000):run_Runner_Step (((),x,()),((true,p,s,()),()))=some (if InOk p x then((OutT p s x,0,()),((true,p,StT p s x,()),())) else((zOut,1,()),((true,p,s,()),()))):=by
 unfold run_Runner_Step run_Runner_ok
 dsimp only
 simp only[bnd_mk,cnd_t,Bool.not_true,cnd_f]
 by_cases h:InOk p x
 ·have H:=(good_step hp g hg h kx).1
  rw[show engine_Step (p,s,(x.1,x.2.1,x.2.2),())=some (StT p s x,OutT p s x,0,()) from p_Step H w g.ins,if_pos h]
  rfl
 ·rw[show engine_Step (p,s,(x.1,x.2.1,x.2.2),())=_ from p_Step_no p s x w g.ins hl (fun k=>h k.2.2.2),if_neg (fun k=>h k.2),if_neg h]
  rfl
theorem p_From{p:PlanD} (w:WfP p) (hp:PlanOkD p) (l:List InD) (hl:l.length<=1000) (hx:∀ x∈l,InX x/\x.1.length<=1000) (s:StateD) (g:Good p s):run_From (p,s,l,())=some (RunL p s l):=by
 unfold run_From run_Restore
 dsimp only
 rw[p_stateD p s w g.ins,if_pos ⟨hp,g.ok⟩,bnd_mk,dT rfl,Bool.not_true,cnd_f,bnd_mk]
 dsimp only
 rw[dT rfl,Bool.not_true,cnd_f]
 have key:∀ (n k:Nat) (tr:List OutD) (s:StateD),l.length-k=n->k<=l.length->tr.length<=k->Good p s ->
   loopP (fun(s3:List OutD×Int×(Bool×PlanD×StateD×Unit)×Unit)=>cnd (decide (s3.2.1<(l.length:Int))) (bnd (ati l s3.2.1) fun v4=>cnd (!decide (s3.2.2.1.2.2.1.2.1=0)) (inrE (inlE (s3.1,s3.2.2.1,()))) (bnd (run_Runner_Step (((),v4,()),(s3.2.2.1,()))) fun r5=>cnd (!decide (r5.1.2.1=0)) (inrE (inrE (some ([],zSt,r5.1.2.1,())))) (bnd (app 1466015503701 s3.1 [r5.1.1]) fun v6=>inlE (v6,wr .i64 (s3.2.1+1),r5.2.1,())))) (inrE (inlE (s3.1,s3.2.2.1,())))) (tr,(k:Int),(true,p,s,()),()) =
   some (if(RunL p s (l.drop k)).2.2.1=0 then Sum.inl (tr++(RunL p s (l.drop k)).1,(true,p,(RunL p s (l.drop k)).2.1,()),()) else Sum.inr (([],zSt,1,()):RunD)):=by
  intro n
  induction n with
  | zero =>
   intro k tr s h1 h2 h3 g
   have hk:k=l.length:=by omega
   subst hk
   rw[List.drop_length,show RunL p s []=([],s,0,()) from rfl,if_pos rfl,List.append_nil]
   refine loopP_done ?_
   dsimp only
   rw[lt_false]
   rfl
  | succ n ih =>
   intro k tr s h1 h2 h3 g
   have hk:k<l.length:=by omega
   have hd:l.drop k=l[k]::l.drop (k+1):=by rw[List.drop_eq_getElem_cons hk]
   have hkx:=hx l[k] (List.getElem_mem hk)
   have hat:ati l (k:Int)=some l[k]:=ati_get hk
   rw[hd]
   have e2:RunL p s (l[k]::l.drop (k+1))=(if s.2.1=0 then(if InOk p l[k] then(if(RunL p (StT p s l[k]) (l.drop (k+1))).2.2.1=0 then(OutT p s l[k]::(RunL p (StT p s l[k]) (l.drop (k+1))).1,(RunL p (StT p s l[k]) (l.drop (k+1))).2.1,0,()) else([],zSt,1,())) else([],zSt,1,())) else([],s,0,())):=rfl
   rw[e2]
   generalize l[k]=x at *
   by_cases h0:s.2.1=0
   ·rw[if_pos h0]
    have hst:=p_rstep w hp g h0 hkx.1 hkx.2
    by_cases h4:InOk p x
    ·rw[if_pos h4] at hst ⊢
     have hg:=good_step hp g h0 h4 hkx.1
     refine(loopP_step (s':=(tr++[OutT p s x],((k+1:Nat):Int),(true,p,StT p s x,()),())) ?_).trans ?_
     ·dsimp only
      rw[lt_true hk,cnd_t,hat,bnd_mk,dT h0,Bool.not_true,cnd_f,hst,bnd_mk]
      dsimp only
      rw[dT rfl,Bool.not_true,cnd_f,app_ok (by rw[List.length_singleton];omega),bnd_mk,wr_succ hk (by omega)]
      rfl
     ·rw[ih (k+1) _ _ (by omega) (by omega) (by rw[List.length_append,List.length_singleton];omega) hg.2]
      by_cases h5:(RunL p (StT p s x) (l.drop (k+1))).2.2.1=0
      ·rw[if_pos h5,if_pos h5]
       dsimp only
       rw[if_pos rfl,List.append_assoc]
       rfl
      ·rw[if_neg h5,if_neg h5]
       dsimp only
       rw[if_neg (by decide)]
    ·rw[if_neg h4] at hst ⊢
     dsimp only
     rw[if_neg (by decide)]
     refine loopP_done ?_
     dsimp only
     rw[lt_true hk,cnd_t,hat,bnd_mk,dT h0,Bool.not_true,cnd_f,hst,bnd_mk]
     rfl
   ·rw[if_neg h0]
    dsimp only
    rw[if_pos rfl,List.append_nil]
    refine loopP_done ?_
    dsimp only
    rw[lt_true hk,cnd_t,hat,bnd_mk,dF h0]
    rfl
 have e:=key l.length 0 [] s (by omega) (by omega) (by simp) g
 rw[List.drop_zero] at e
 refine(congrArg (fun z=>bndS z _) e).trans ?_
 by_cases h:(RunL p s l).2.2.1=0
 ·rw[if_pos h]
  show some _=some _
  rw[List.nil_append]
  exact congrArg some (by rw[← h])
 ·rw[if_neg h,(run_err l s).resolve_left h]
  rfl
theorem p_FromB(p:PlanD) (s:StateD) (l:List InD) (w:WfP p) (h:InS s) (hn:¬ (PlanOkD p/\StateOkD p s)):run_FromB (p,s,l,())=some ([],zSt,1,()):=by
 unfold run_FromB run_RestoreB
 dsimp only
 rw[p_stateD p s w h,if_neg hn]
 rfl
abbrev s0D:StateD:=(0,0,0,(false,0,0,()),((false,0,0,()),0,4294967296,()),[],[],(0,[],()),())
theorem s0_good{p:PlanD} (hp:PlanOkD p):Good p s0D:=by
 have hr:=planD_head hp
 have hst:p.2.2.2.2.2.2.2.2.2.2.2.2.1≠-1->1<=p.2.2.2.2.2.2.2.2.1.2.2.2.1:=by
  obtain⟨_,_,_,_,h3,_⟩:=hp
  unfold StopOk at h3
  intro h
  omega
 have hcu:p.2.2.2.2.2.2.2.2.2.2.2.2.2.1≠-1->1<=p.2.2.2.2.2.2.2.2.2.1.2.2.2.2.1/\0<=p.2.2.2.2.2.2.2.2.2.1.2.2.2.2.2.1:=by
  obtain⟨_,_,_,_,_,h3,_⟩:=hp
  unfold CutOk at h3
  intro h
  omega
 have hke:p.2.2.2.2.2.2.2.2.2.2.2.2.2.2.1≠-1->0<=p.2.2.2.2.2.2.2.2.2.2.1.2.2.2.1:=by
  obtain⟨_,_,_,_,_,_,h3,_⟩:=hp
  unfold KeepOk at h3
  intro h
  omega
 have hT:TakenS s0D=0:=by unfold TakenS;rw[if_neg (by decide)]
 have hL:LooksS p.2.2.2.2.1 s0D=0:=by
  unfold LooksS looksF
  rw[hT]
  split
  ·rfl
  ·simp
 refine⟨⟨?_,?_,?_,?_,?_⟩,⟨⟨by decide,by decide⟩,by decide,by decide,by decide,fun x hx=>by cases hx⟩,⟨⟨by decide,by decide⟩,⟨by decide,by decide⟩,fun x hx=>(by cases hx),fun x hx=>(by cases hx),fun x hx=>by cases hx⟩⟩
 ·refine .inl ⟨rfl,by decide,?_,rfl,fun k=>?_⟩
  ·show(0:Int)<_;omega
  ·have h1:=hst k.1
   have h2:=k.2
   dsimp only at h2
   omega
 ·by_cases h:p.2.2.2.2.2.2.2.2.2.2.2.2.1=-1
  ·exact .inl ⟨h,rfl⟩
  ·exact .inr ⟨h,.inl ⟨rfl,rfl,rfl⟩⟩
 ·by_cases h:p.2.2.2.2.2.2.2.2.2.2.2.2.2.1=-1
  ·exact .inl ⟨h,rfl⟩
  ·have:=hcu h
   exact .inr ⟨h,⟨fun k=>k.2 ⟨rfl,rfl⟩,by decide,by decide,by decide,by decide,by decide,by decide⟩,.inl ⟨rfl,rfl,rfl⟩,by dsimp only;omega,by dsimp only;omega⟩
 ·by_cases h:p.2.2.2.2.2.2.2.2.2.2.2.2.2.2.1=-1
  ·exact .inl ⟨h,rfl⟩
  ·have:=hke h
   exact .inr ⟨h,by rw[hL];decide,⟨fun i hi=>by simp at hi,by dsimp only[List.length_nil];omega⟩,fun i hi=>by simp at hi⟩
 ·unfold AvgSt
  rw[hT]
  simp [sumsF]
theorem p_All{p:PlanD} (w:WfP p) (hp:PlanOkD p) (l:List InD) (hl:l.length<=1000) (hx:∀ x∈l,InX x/\x.1.length<=1000):run_All (p,l,())=some (RunL p s0D l):=by
 unfold run_All
 dsimp only
 rw[show state_New ()=some s0D from rfl,bnd_mk,p_From w hp l hl hx s0D (s0_good hp)]
 rfl
theorem r_same39(a b:List OutD) (hl:a.length<=1000) (ha:∀ o∈a,o.2.2.1.length<=24/\o.2.2.2.1.length<=8/\o.2.2.2.2.1.length<=40) (e:a=b):q39_Same (a,b,())=some true:=by
 subst e
 unfold q39_Same
 dsimp only
 rw[dT rfl,Bool.not_true,cnd_f,grow_loop _ (fun k=>((k:Int),())) a.length (Sum.inl ():Unit ⊕ Bool) _ ?_ ?_ ?_]
 ·rfl
 ·rfl
 ·intro k hk
  have h:=ha _ (nth_mem (z:=zOut) hk)
  dsimp only
  rw[lt_true hk,cnd_t,ati_d zOut hk,bnd_mk,bnd_mk,r_sameO _ _ (by omega) (by omega) (by omega),dT rfl,bnd_mk,Bool.not_true,cnd_f,wr_succ hk (by omega)]
  rfl
 ·dsimp only
  rw[lt_false]
  rfl
end Go.Proofs.YtmomjjgokeffnaaGreat.F
namespace Go.Proofs.YtmomjjgokeffnaaGreat.F
open Go.VX
open Classical
end Go.Proofs.YtmomjjgokeffnaaGreat.F
namespace Go.Proofs.YtmomjjgokeffnaaGreat.F
open Go.VX
open Classical
abbrev zIn:InD:=([],[],())
theorem small39(p:PlanD) (s:StateD) (l:List InD):∃ q,l39_Small (p,s,l,())=some q/\(q=true->p.1<=300/\l.length<=60/\(∀ x∈l,x.1.length<=30/\x.2.1.length<=30)/\s.2.2.2.2.2.1.length<=30/\s.2.2.2.2.2.2.1.length<=30/\s.2.2.2.2.2.2.2.1.2.1.length<=30):=by
 obtain⟨q1,e1⟩:=lightD p
 unfold l39_Small
 dsimp only
 rw[e1,light37]
 cases q1 with
 | false=>exact⟨false,rfl,fun k=>Bool.noConfusion k⟩
 | true =>
 by_cases h:s.2.2.2.2.2.1.length<=30/\s.2.2.2.2.2.2.1.length<=30/\s.2.2.2.2.2.2.2.1.2.1.length<=30
 rotate_left
 ·rw[dF h];exact⟨false,rfl,fun k=>Bool.noConfusion k⟩
 rw[dT h]
 by_cases h1:p.1>300
 ·rw[dT h1];exact⟨false,rfl,fun k=>Bool.noConfusion k⟩
 rw[dF h1]
 by_cases h2:(l.length:Int)>60
 ·rw[dT h2];exact⟨false,rfl,fun k=>Bool.noConfusion k⟩
 rw[dF h2]
 simp only[bnd_mk,Bool.not_true,Bool.not_false,cnd_t,cnd_f]
 have hb:∀ k,k<l.length->(bnd (cnd (!(decide (((nth zIn l k).1.length:Int)>30))) (bnd (some (nth zIn l k)) fun v9=>some (decide ((v9.2.1.length:Int)>30))) (some true)) fun j10=>cnd j10 (inrE (inrE (some false))) (inlE ((k:Int)+1,())):Option ((Int×Unit) ⊕ (Unit ⊕ Bool)))=if(nth zIn l k).1.length<=30/\(nth zIn l k).2.1.length<=30 then some (.inl ((k:Int)+1,())) else some (.inr (.inr false)):=by
  intro k hk
  by_cases c1:(nth zIn l k).1.length<=30
  ·rw[dF (by omega:¬ ((nth zIn l k).1.length:Int)>30)]
   by_cases c2:(nth zIn l k).2.1.length<=30
   ·rw[if_pos ⟨c1,c2⟩,bnd_mk,dF (by omega:¬ ((nth zIn l k).2.1.length:Int)>30)];rfl
   ·rw[if_neg (fun z=>c2 z.2),bnd_mk,dT (by omega:((nth zIn l k).2.1.length:Int)>30)];rfl
  ·rw[if_neg (fun z=>c1 z.1),dT (by omega:((nth zIn l k).1.length:Int)>30)];rfl
 rcases find_loop (ρ:=Unit ⊕ Bool) (fun(s7:Int×Unit)=>cnd (decide (s7.1<(l.length:Int))) (bnd (ati l s7.1) fun v8=>bnd (cnd (!(decide ((v8.1.length:Int)>30))) (bnd (ati l s7.1) fun v9=>some (decide ((v9.2.1.length:Int)>30))) (some true)) fun j10=>cnd j10 (inrE (inrE (some false))) (inlE (wr .i64 (s7.1+1),()))) (inrE (inlE (())))) (fun k=>((k:Int),())) l.length (fun k=>¬ ((nth zIn l k).1.length<=30/\(nth zIn l k).2.1.length<=30)) (0,()) rfl (fun k hk hn=>by
  have:=hb k hk
  dsimp only
  rw[lt_true hk,cnd_t,ati_d zIn hk,bnd_mk,wr_succ hk (by omega),this,if_pos (not_not.1 hn)]
  rfl) with⟨k,hk,hn,e⟩ | ⟨hn,e⟩
 ·have:=hb k hk
  rw[e,loopP_done (r:=.inr false) (by
   dsimp only
   rw[lt_true hk,cnd_t,ati_d zIn hk,bnd_mk,wr_succ hk (by omega),this,if_neg hn])]
  exact⟨false,rfl,fun k=>Bool.noConfusion k⟩
 ·rw[e,loopP_done (r:=.inl ()) (by
   dsimp only
   rw[lt_false]
   rfl)]
  refine⟨true,rfl,fun _=>⟨by omega,by omega,fun x hx=>?_,h⟩⟩
  obtain⟨i,hi,rfl⟩:=List.getElem_of_mem hx
  have:=not_not.1 (hn i hi)
  simpa [nth,List.getD,hi] using this
abbrev exR:PlanD:=(2,0,0,1,0,[(0,2,())],[[false]],[(0,0,[exSeg 2 8],()),(0,1,[exSeg 2 8],()),(0,2,[exSeg 2 8],())],(false,[],false,0,0,false,()),(false,[],false,0,0,0,0,0,()),(false,[],false,0,()),(false,0,()),-1,-1,-1,0,0,())
theorem exR_ok:PlanOkD exR:=exPlan 2 8 0 0 (false,[],false,0,()) (-1) (by omega) (by omega) (by omega) (by omega) (by omega) (by omega) (by omega) (by omega) (keep_none _ _)
theorem exR_wf:WfP exR:=⟨by simp,by simp,by simp,fun t ht=>by simp at ht;rcases ht with rfl | rfl | rfl<;>simp⟩
theorem exR_in:InOk exR zIn:=⟨rfl,rfl,fun i hi=>by simp at hi⟩
theorem exR_step(s:StateD):StT exR s zIn=(s.1+1,if s.1+1=2 then 1 else 0,if s.1+1=2 then s.1 else s.2.2.1,s.2.2.2.1,s.2.2.2.2.1,s.2.2.2.2.2.1,s.2.2.2.2.2.2.1,s.2.2.2.2.2.2.2.1,()):=by
 have hk:¬ LkN exR s:=fun k=>by have:=k.1;exact absurd this (by decide)
 have hs:¬ SwN exR s:=fun k=>by have:=k.1;exact absurd this (by decide)
 unfold StT stopN cutN keptN emaN swaN
 rw[if_neg (fun k:FailN _ _ _=>hs k.1),if_neg (fun k:OutN _ _ _=>hk k.1.1),if_neg (fun k:OutN _ _ _=>hk k.1.1),if_neg (fun k:StN _ _ _=>hk k.1),if_neg (fun k:CuN _ _ _=>hk k.1),if_neg (fun k:KeN _ _ _=>hk k.1),if_neg (Bool.false_ne_true:¬ exR.2.2.2.2.2.2.2.2.2.2.2.1.1=true),if_neg hs]
theorem awake39:l39_awake ()=some true:=by
 have h:=p_All exR_wf exR_ok [zIn,zIn,zIn] (by simp) (fun x hx=>by
  simp at hx
  subst hx
  exact⟨⟨fun y hy=>(by cases hy),fun y hy=>by cases hy⟩,by simp⟩)
 have e1:StT exR s0D zIn=(1,0,0,(false,0,0,()),((false,0,0,()),0,4294967296,()),[],[],(0,[],()),()):=by
  rw[exR_step,if_neg (by decide)]
  rfl
 have e2:StT exR (1,0,0,(false,0,0,()),((false,0,0,()),0,4294967296,()),[],[],(0,[],()),()) zIn=(2,1,1,(false,0,0,()),((false,0,0,()),0,4294967296,()),[],[],(0,[],()),()):=by
  rw[exR_step,if_pos (by decide)]
  rfl
 have r3:RunL exR (2,1,1,(false,0,0,()),((false,0,0,()),0,4294967296,()),[],[],(0,[],()),()) [zIn]=([],(2,1,1,(false,0,0,()),((false,0,0,()),0,4294967296,()),[],[],(0,[],()),()),0,()):=by
  unfold RunL
  rw[if_neg (by decide)]
 have r2:∃ a,RunL exR (1,0,0,(false,0,0,()),((false,0,0,()),0,4294967296,()),[],[],(0,[],()),()) [zIn,zIn]=([a],(2,1,1,(false,0,0,()),((false,0,0,()),0,4294967296,()),[],[],(0,[],()),()),0,()):=by
  unfold RunL
  rw[if_pos rfl,if_pos exR_in,e2,r3,if_pos rfl]
  exact⟨_,rfl⟩
 have r1:∃ a b,RunL exR s0D [zIn,zIn,zIn]=([a,b],(2,1,1,(false,0,0,()),((false,0,0,()),0,4294967296,()),[],[],(0,[],()),()),0,()):=by
  obtain⟨a,r2⟩:=r2
  unfold RunL
  rw[if_pos rfl,if_pos exR_in,e1,r2,if_pos rfl]
  exact⟨_,_,rfl⟩
 obtain⟨a,b,r1⟩:=r1
 unfold l39_awake
 rw[show run_All (_,[([],[],()),([],[],()),([],[],())],())=_ from h,r1]
 rfl
end Go.Proofs.YtmomjjgokeffnaaGreat.F
namespace Go.Proofs.YtmomjjgokeffnaaGreat.F
open Go.VX
open Classical
theorem run_cons{p:PlanD} {s:StateD} {x:InD} {l:List InD}:RunL p s (x::l)=(if s.2.1=0 then(if InOk p x then(if(RunL p (StT p s x) l).2.2.1=0 then(OutT p s x::(RunL p (StT p s x) l).1,(RunL p (StT p s x) l).2.1,0,()) else([],zSt,1,())) else([],zSt,1,())) else([],s,0,())):=rfl
theorem r_From{p:PlanD} (hp:PlanOkD p) (l:List InD) (hl:l.length<=1000) (hx:∀ x∈l,InX x/\x.1.length<=1000) (s:StateD) (g:Good p s):q39_From (p,s,l,())=some (RunL p s l):=by
 unfold q39_From
 dsimp only
 have key:∀ (n k:Nat) (tr:List OutD) (s:StateD),l.length-k=n->k<=l.length->tr.length<=k->Good p s ->
   loopP (fun(s2:List OutD×Int×StateD×Unit)=>bnd (cnd (decide (s2.2.1<(l.length:Int))) (some (decide (s2.2.2.1.2.1=0))) (some false)) fun j3=>cnd j3 (bnd (ati l s2.2.1) fun v4=>bnd (q35_May (p,v4,())) fun r5=>cnd (!r5) (inrE (inrE (some ([],zSt,1,())))) (bnd (ati l s2.2.1) fun v6=>bnd (q38_Step (p,s2.2.2.1,v6,())) fun r7=>bnd (app 1466015503701 s2.1 [r7.2.1]) fun v8=>inlE (v8,wr .i64 (s2.2.1+1),r7.1,()))) (inrE (inlE (s2.1,s2.2.2.1,())))) (tr,(k:Int),s,()) =
   some (if(RunL p s (l.drop k)).2.2.1=0 then Sum.inl (tr++(RunL p s (l.drop k)).1,(RunL p s (l.drop k)).2.1,()) else Sum.inr (([],zSt,1,()):RunD)):=by
  intro n
  induction n with
  | zero =>
   intro k tr s h1 h2 h3 g
   have hk:k=l.length:=by omega
   subst hk
   rw[List.drop_length,show RunL p s []=([],s,0,()) from rfl,if_pos rfl,List.append_nil]
   refine loopP_done ?_
   dsimp only
   rw[lt_false]
   rfl
  | succ n ih =>
   intro k tr s h1 h2 h3 g
   have hk:k<l.length:=by omega
   have hd:l.drop k=l[k]::l.drop (k+1):=by rw[List.drop_eq_getElem_cons hk]
   have hkx:=hx l[k] (List.getElem_mem hk)
   have hat:ati l (k:Int)=some l[k]:=ati_get hk
   rw[hd,run_cons]
   generalize l[k]=x at *
   by_cases h0:s.2.1=0
   ·rw[if_pos h0]
    by_cases h4:InOk p x
    ·rw[if_pos h4]
     have hg:=good_step hp g h0 h4 hkx.1
     refine(loopP_step (s':=(tr++[OutT p s x],((k+1:Nat):Int),StT p s x,())) ?_).trans ?_
     ·dsimp only
      rw[lt_true hk,cnd_t,bnd_mk,dT h0,cnd_t,hat,bnd_mk,r_rmay p x hkx.2,dT h4,bnd_mk,Bool.not_true,cnd_f,bnd_mk,r_Step hg.1,bnd_mk,app_ok (by rw[List.length_singleton];omega),bnd_mk,wr_succ hk (by omega)]
      rfl
     ·rw[ih (k+1) _ _ (by omega) (by omega) (by rw[List.length_append,List.length_singleton];omega) hg.2]
      by_cases h5:(RunL p (StT p s x) (l.drop (k+1))).2.2.1=0
      ·rw[if_pos h5,if_pos h5]
       dsimp only
       rw[if_pos rfl,List.append_assoc]
       rfl
      ·rw[if_neg h5,if_neg h5]
       dsimp only
       rw[if_neg (by decide)]
    ·rw[if_neg h4]
     dsimp only
     rw[if_neg (by decide)]
     refine loopP_done ?_
     dsimp only
     rw[lt_true hk,cnd_t,bnd_mk,dT h0,cnd_t,hat,bnd_mk,r_rmay p x hkx.2,dF h4]
     rfl
   ·rw[if_neg h0]
    dsimp only
    rw[if_pos rfl,List.append_nil]
    refine loopP_done ?_
    dsimp only
    rw[lt_true hk,cnd_t,bnd_mk,dF h0]
    rfl
 have e:=key l.length 0 [] s (by omega) (by omega) (by simp) g
 rw[List.drop_zero] at e
 refine(congrArg (fun z=>bndS z _) e).trans ?_
 by_cases h:(RunL p s l).2.2.1=0
 ·rw[if_pos h]
  show some _=some _
  rw[List.nil_append]
  exact congrArg some (by rw[← h])
 ·rw[if_neg h,(run_err l s).resolve_left h]
  rfl
theorem eqT_self(t:Ty) (h:eqOk t=true) (x:t.D):eqT t x x=true:=(eqT_iff t h x x).2 rfl
theorem alike_self(p:PlanD) (hp:PlanOkD p):q28_Alike (p,p,())=some true:=by
 have hs:=planD_spans hp
 have hf:=planD_frozen hp
 have hg:=planD_groups hp
 unfold q28_Alike
 dsimp only
 simp only[decide_true,Bool.not_true,Bool.not_false,cnd_t,cnd_f,bnd_mk]
 rw[grow_loop _ (fun k=>((k:Int),())) p.2.2.2.2.2.1.length (Sum.inl ():Unit ⊕ Bool) _ ?_ ?_ ?_]
 rotate_left
 ·rfl
 ·intro k hk
  dsimp only
  rw[lt_true hk,cnd_t,ati_d zSpan hk,bnd_mk,bnd_mk,eqT_self _ rfl,Bool.not_true,cnd_f,wr_succ hk (by omega)]
  rfl
 ·dsimp only
  rw[lt_false]
  rfl
 rw[bndS_l,grow_loop _ (fun k=>((k:Int),())) p.2.2.2.2.2.2.1.length (Sum.inl ():Unit ⊕ Bool) _ ?_ ?_ ?_]
 rotate_left
 ·rfl
 ·intro k hk
  have hv:=hf.2 k hk
  dsimp only
  rw[lt_true hk,cnd_t,ati_d [] hk,bnd_mk,bnd_mk,dT rfl,Bool.not_true,cnd_f,wr_succ hk (by omega)]
  rw[grow_loop _ (fun m=>((m:Int),())) (nth [] p.2.2.2.2.2.2.1 k).length (Sum.inl ():Unit ⊕ ((Int×Unit) ⊕ (Unit ⊕ Bool))) _ ?_ ?_ ?_]
  ·rfl
  ·rfl
  ·intro m hm
   dsimp only
   rw[bnd_mk,lt_true hm,cnd_t,bnd_mk,ati_d false hm,bnd_mk,bnd_mk,ati_d false hm,bnd_mk,dT rfl,Bool.not_true,cnd_f,wr_succ hm (by omega)]
   rfl
  ·dsimp only
   rw[bnd_mk,lt_false]
   rfl
 ·dsimp only
  rw[lt_false]
  rfl
 rw[bndS_l,eqT_self _ rfl,eqT_self _ rfl,eqT_self _ rfl,eqT_self _ rfl]
 rfl
theorem run_ins{p:PlanD} (hp:PlanOkD p) (l:List InD) (s:StateD) (g:Good p s) (hx:∀ x∈l,InX x):InS (RunL p s l).2.1:=by
 by_cases h:(RunL p s l).2.2.1=0
 ·exact(run_good hp l s g hx h).ins
 ·rw[(run_err l s).resolve_left h]
  exact⟨⟨by decide,by decide⟩,by decide,by decide,by decide,fun x hx=>by cases hx⟩
theorem p_rstep_no{p:PlanD} {s:StateD} {x:InD} (w:WfP p) (g:Good p s) (hg:s.2.1≠0) (hl:x.1.length<=1000):∃ e:Int,e≠0/\run_Runner_Step (((),x,()),((true,p,s,()),()))=some ((zOut,e,()),((true,p,s,()),())):=by
 have h:=p_Step_no p s x w g.ins hl (fun k=>hg k.2.2.1)
 unfold run_Runner_Step run_Runner_ok
 dsimp only
 simp only[bnd_mk,cnd_t,Bool.not_true,cnd_f]
 rw[show engine_Step (p,s,(x.1,x.2.1,x.2.2),())=_ from h]
 generalize he:(if PlanOkD p/\InOk p x then(if StateOkD p s then(10:Int) else 1) else 1)=e
 have hne:e≠0:=by rw[← he];split<;>(try split)<;>decide
 refine⟨e,hne,?_⟩
 simp only[bnd_mk]
 rw[dF hne]
 rfl
end Go.Proofs.YtmomjjgokeffnaaGreat.F
