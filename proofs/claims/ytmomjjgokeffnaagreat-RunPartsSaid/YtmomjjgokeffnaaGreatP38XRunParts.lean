/- The pieces of a step: sums of weights, what is kept, readings, and events that are told. -/
import Derived.Test.YtmomjjgokeffnaaGreatP38WRunParts
set_option linter.unusedVariables false
set_option linter.unusedSectionVars false
set_option linter.unusedSimpArgs false
namespace Go.Proofs.YtmomjjgokeffnaaGreat.F
open Go.VX
open Classical
theorem sumS_ne{sw:SumD} {w:List Int} (h:sw.1≠0):SumS sw w=(sw.1+1,(List.range w.length).map fun i=>nth 0 sw.2.1 i+nth 0 w i,()):=by
 unfold SumS
 rw[if_neg h]
theorem find_loop{σ ρ:Type} (f:σ->Option (σ ⊕ ρ)) (st:Nat->σ) (n:Nat) (bad:Nat->Prop) (s0:σ) (h0:st 0=s0) (h1:∀ k,k<n->¬ bad k->f (st k)=some (.inl (st (k+1)))) :
  (∃ k,k<n/\bad k/\loopP f s0=loopP f (st k))\/((∀ k,k<n->¬ bad k)/\loopP f s0=loopP f (st n)):=by
 subst h0
 have key:∀ k,k<=n->(∃ j,j<k/\bad j/\loopP f (st 0)=loopP f (st j))\/((∀ j,j<k->¬ bad j)/\loopP f (st 0)=loopP f (st k)):=by
  intro k
  induction k with
  | zero=>intro _;exact .inr ⟨fun j hj=>by omega,rfl⟩
  | succ k ih =>
   intro hk
   rcases ih (by omega) with⟨j,a,b,c⟩ | ⟨a,b⟩
   ·exact .inl ⟨j,by omega,b,c⟩
   ·by_cases hb:bad k
    ·exact .inl ⟨k,by omega,hb,b⟩
    ·refine .inr ⟨fun j hj=>?_,by rw[b,loopP_step (h1 k (by omega) hb)]⟩
     by_cases e:j=k
     ·rw[e];exact hb
     ·exact a j (by omega)
 rcases key n (Nat.le_refl _) with⟨j,a,b,c⟩ | h
 ·exact .inl ⟨j,a,b,c⟩
 ·exact .inr h
theorem p_sadd(sw:SumD) (w:List Int) (c0:0<=sw.1) (c1:sw.1<1048576) (hz:sw.1=0->sw.2.1.length=0) (hn:sw.1≠0->sw.2.1.length=w.length) (hl:w.length<=1000) (rs:Rng sw.2.1) (rw':Rng w) :
  ∃ r,swa_Add (sw,w,())=some r/\(SumFail sw w->r.2.1≠0)/\(¬ SumFail sw w->r=(SumS sw w,0,())):=by
 unfold swa_Add swa_Check
 dsimp only
 rw[decide_eq_false (by omega:¬ sw.1<0),decide_eq_false (by omega:¬ sw.1>1048576),decide_eq_false (by omega:¬ sw.1=1048576)]
 by_cases h0:sw.1=0
 ·have hs:=hz h0
  rw[decide_eq_true h0,decide_eq_false (by omega:¬ (sw.2.1.length:Int)>0),show slices_Clone_int_int (w,())=some w from clone_ok w _ (by omega)]
  refine⟨((1,w,()),0,()),rfl,fun k=>(k.1 h0).elim,fun _=>?_⟩
  unfold SumS
  rw[if_pos h0,h0]
  rfl
 ·have hs:=hn h0
  rw[decide_eq_false h0,decide_eq_true (by omega:(sw.2.1.length:Int)=(w.length:Int)),wr_id (x:=sw.1+1) (by omega) (by omega)]
  simp only[Bool.not_false,Bool.not_true,cnd_t,cnd_f,bnd_mk,decide_true]
  rcases find_loop (ρ:=(SumD×Unit) ⊕ (SumD×Int×Unit)) (fun(s4:Int×(Int×(List (Int)×Unit))×Unit)=>cnd (decide (s4.1<(w.length:Int))) (bnd (ati w s4.1) fun v5=>bnd (ati sw.2.1 s4.1) fun v6=>bnd (fix_Add (v6,v5,())) fun r7=>cnd (!decide (r7.2.1=0)) (inrE (inrE (some ((0,[],()),r7.2.1,())))) (bnd (app 17592186044416 s4.2.1.2.1 [r7.1]) fun v8=>inlE (wr .i64 (s4.1+1),(s4.2.1.1,v8,s4.2.1.2.2),()))) (inrE (inlE (s4.2.1,())))) (fun k=>((k:Int),(sw.1+1,(List.range k).map fun i=>nth 0 sw.2.1 i+nth 0 w i,()),())) w.length (fun k=>¬ In64 (nth 0 sw.2.1 k+nth 0 w k)) (0,(sw.1+1,[],()),()) rfl (fun k hk hb=>by
   dsimp only
   obtain⟨r,e,h1,_⟩:=p_fadd (nth 0 sw.2.1 k) (nth 0 w k) (rng_nth rs (by omega)) (rng_nth rw' hk)
   have h1:=h1 (not_not.1 hb)
   subst h1
   rw[lt_true hk,cnd_t,ati_d 0 hk,bnd_mk,ati_d 0 (by omega:k<sw.2.1.length),bnd_mk,e,bnd_mk,decide_eq_true rfl,Bool.not_true,cnd_f,app_ok (by rw[List.length_map,List.length_range,List.length_singleton];omega),bnd_mk,wr_succ hk (by omega),range_succ_map]
   rfl) with⟨k,hk,hb,e⟩ | ⟨hb,e⟩
  ·obtain⟨r,e1,_,h2⟩:=p_fadd (nth 0 sw.2.1 k) (nth 0 w k) (rng_nth rs (by omega)) (rng_nth rw' hk)
   have h2:=h2 hb
   rw[e,loopP_done (r:=.inr ((0,[],()),r.2.1,())) (by
    dsimp only
    rw[lt_true hk,cnd_t,ati_d 0 hk,bnd_mk,ati_d 0 (by omega:k<sw.2.1.length),bnd_mk,e1,bnd_mk,decide_eq_false h2]
    rfl),bndS_r]
   exact⟨_,rfl,fun _=>h2,fun n=>(n ⟨h0,k,hk,hb⟩).elim⟩
  ·rw[e,loopP_done (r:=.inl ((sw.1+1,(List.range w.length).map fun i=>nth 0 sw.2.1 i+nth 0 w i,()),())) (by
    dsimp only
    rw[lt_false,cnd_f]
    rfl),bndS_l]
   refine⟨_,rfl,fun⟨_,k,hk,n⟩=>(hb k hk n).elim,fun _=>?_⟩
   rw[sumS_ne h0]
theorem p_bput(l:List KpD) (x:KpD) (c:Int) (most:Bool) (c0:0<=c) (hl:l.length<=1000) (hr:KRange l) (hx:In64 x.2.1):best_Put (l,x,c,most,())=some (PutS most c l x):=by
 unfold best_Put best_of
 dsimp only
 rw[bnd_mk,max0,if_neg (by omega)]
 have:=p_put most c l x hl hr hx
 unfold zAhead at this
 rw[this,bnd_mk]
 rfl
def InOk(p:PlanD) (x:InD):Prop:=(x.1.length:Int)=p.2.2.1/\(x.2.1.length:Int)=p.2.1/\∀ i,i<x.1.length->¬ ((nth zRd x.1 i).1=false/\(nth zRd x.1 i).2.1≠0)
theorem rd_bad(y:RdD):reading_Check_1 (y,())=some (decide (y.1=false/\y.2.1≠0)):=by
 unfold reading_Check_1
 dsimp only
 cases y.1 with
 | true=>rw[decide_eq_false (fun k:true=false/\y.2.1≠0=>Bool.noConfusion k.1)];rfl
 | false =>
  rw[Bool.not_false,cnd_t,bnd_mk]
  by_cases h:y.2.1=0
  ·rw[decide_eq_true h,decide_eq_false (fun k:false=false/\y.2.1≠0=>k.2 h)];rfl
  ·rw[decide_eq_false h,decide_eq_true (⟨rfl,h⟩:false=false/\y.2.1≠0)];rfl
theorem p_bads(l:List RdD) (hl:l.length<=1000):slices_ContainsFunc_Reading (l,(fun a4=>bnd (reading_Check_1 a4) some),())=some (decide (¬ ∀ i,i<l.length->¬ ((nth zRd l i).1=false/\(nth zRd l i).2.1≠0))):=by
 unfold slices_ContainsFunc_Reading slices_IndexFunc_Reading
 dsimp only
 rcases find_loop (ρ:=Unit ⊕ Int) (fun(s2:Int×Unit)=>cnd (decide (s2.1<(l.length:Int))) (bnd (ati l s2.1) fun v3=>bnd (bnd (reading_Check_1 (v3,())) some) fun r4=>cnd r4 (inrE (inrE (some s2.1))) (inlE (wr .i64 (s2.1+1),()))) (inrE (inlE (())))) (fun k=>((k:Int),())) l.length (fun i=>(nth zRd l i).1=false/\(nth zRd l i).2.1≠0) (0,()) rfl (fun k hk hb=>by
  dsimp only
  rw[lt_true hk,cnd_t,ati_d zRd hk,bnd_mk,rd_bad,bnd_mk,bnd_mk,decide_eq_false hb,cnd_f,wr_succ hk (by omega)]
  rfl) with⟨k,hk,hb,e⟩ | ⟨hb,e⟩
 ·rw[e,loopP_done (r:=.inr (k:Int)) (by
   dsimp only
   rw[lt_true hk,cnd_t,ati_d zRd hk,bnd_mk,rd_bad,bnd_mk,bnd_mk,decide_eq_true hb,cnd_t]
   rfl),bndS_r,bnd_mk]
  exact congrArg some (decide_eq_decide.2 ⟨fun _ h=>h k hk hb,fun _=>by omega⟩)
 ·rw[e,loopP_done (r:=.inl ()) (by
   dsimp only
   rw[lt_false,cnd_f]
   rfl),bndS_l,bnd_mk]
  exact congrArg some (decide_eq_decide.2 ⟨fun h=>by omega,fun h=>(h hb).elim⟩)
theorem p_rcheck(p:PlanD) (x:InD) (w:WfP p) (hl:x.1.length<=1000):reading_Check (p,x,())=some (if PlanOkD p/\InOk p x then 0 else 1):=by
 unfold reading_Check
 dsimp only
 rw[p_planD p w]
 by_cases hp:PlanOkD p
 rotate_left
 ·rw[if_neg hp,if_neg (fun k=>hp k.1)];rfl
 rw[if_pos hp,bnd_mk,decide_eq_true rfl]
 by_cases h1:(x.1.length:Int)=p.2.2.1
 rotate_left
 ·rw[decide_eq_false h1,if_neg (fun k=>h1 k.2.1)];rfl
 rw[decide_eq_true h1]
 by_cases h2:(x.2.1.length:Int)=p.2.1
 rotate_left
 ·rw[decide_eq_false h2,if_neg (fun k=>h2 k.2.2.1)];rfl
 rw[decide_eq_true h2]
 simp only[Bool.not_true,Bool.not_false,cnd_t,cnd_f,bnd_mk]
 rw[p_bads x.1 hl,bnd_mk]
 by_cases h3:∀ i,i<x.1.length->¬ ((nth zRd x.1 i).1=false/\(nth zRd x.1 i).2.1≠0)
 ·rw[decide_eq_false (fun k=>k h3),if_pos ⟨hp,h1,h2,h3⟩];rfl
 ·rw[decide_eq_true h3,if_neg (fun k=>h3 k.2.2.2)];rfl
theorem p_rof(x:InD) (a:Int) (h:a<(x.1.length:Int)):∃ v q,reading_Of (x,a,())=some (v,q,())/\(q=true↔Seen x.1 a)/\(Seen x.1 a->v=valR x.1 a):=by
 unfold reading_Of
 dsimp only
 by_cases h0:a<0
 ·rw[decide_eq_true h0]
  exact⟨0,false,rfl,⟨fun k=>Bool.noConfusion k,fun k=>by have:=k.1;omega⟩,fun k=>by have:=k.1;omega⟩
 ·obtain⟨k,rfl⟩:∃ k:Nat,a=k:=⟨a.toNat,by omega⟩
  rw[decide_eq_false h0,decide_eq_false (by omega:¬ (k:Int)>=(x.1.length:Int)),ati_d zRd (by omega:k<x.1.length)]
  simp only[Bool.not_false,cnd_t,bnd_mk]
  unfold Seen valR
  rw[Int.toNat_natCast]
  cases hb:(nth zRd x.1 k).1 with
  | false=>exact⟨0,false,rfl,⟨fun k=>Bool.noConfusion k,fun k=>Bool.noConfusion k.2⟩,fun k=>Bool.noConfusion k.2⟩
  | true=>exact⟨(nth zRd x.1 k).2.1,true,rfl,⟨fun _=>⟨by omega,rfl⟩,fun _=>rfl⟩,fun _=>rfl⟩
end Go.Proofs.YtmomjjgokeffnaaGreat.F
