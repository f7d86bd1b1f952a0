/- The law EngineRates, in plain Lean: any value that a step tells is not above the plan's, and a rate is not below the floor. -/
import Derived.Test.YtmomjjgokeffnaaGreatVx3
import Derived.Test.YtmomjjgokeffnaaGreatP38LEngineRates
import Derived.Test.YtmomjjgokeffnaaGreatP38AEngineRates
set_option linter.unusedVariables false
set_option linter.unusedSimpArgs false
namespace Go.Proofs.YtmomjjgokeffnaaGreat.F
open Go.VX
open Classical
theorem pure_EngineRates(x:Ty.D (.tu T34 (.tu T44 .unit))) (h:Ty.wf (.tu T34 (.tu T44 .unit)) x):l38_EngineRates x=some true:=by
 obtain⟨p,s,_⟩:=x
 obtain⟨hp,hs,_⟩:=h
 change PlanD at p
 change StateD at s
 have w:WfP p:=by
  obtain⟨a0,a1,a2,a3,a4,sp,fz,tr,st,cu,ke,em,o1,o2,o3,sf,se,_⟩:=p
  obtain⟨_,_,_,_,_,hsp,hfz,htr,_⟩:=hp
  exact⟨hsp.1,hfz.1,htr.1,fun t ht=>(htr.2 t ht).2.2.1.1⟩
 have hI:InS s:=⟨hs.1,hs.2.2.2.2.2.1.1,hs.2.2.2.2.2.2.1.1,hs.2.2.2.2.2.2.2.1.2.1.1,fun x hx=>(hs.2.2.2.2.2.1.2 x hx).2.1⟩
 unfold l38_EngineRates
 dsimp only
 rw[awake38]
 obtain⟨q,e,hq⟩:=light38 p s ([],[],())
 rw[e,bnd_mk]
 cases q with
 | false=>rfl
 | true =>
 rw[Bool.not_true,cnd_f,p_vals p s w hI,bnd_mk]
 by_cases k:PlanOkD p/\StateOkD p s
 rotate_left
 ·rw[if_neg k];rfl
 rw[if_pos k]
 by_cases g:s.2.1=0
 rotate_left
 ·rw[if_neg g];rfl
 rw[if_pos g]
 have hr:0<=s.1/\s.1<p.1:=by
  rcases k.2.1 with q | q
  ·exact⟨q.2.1,q.2.2.1⟩
  ·rcases q.2 with q | q | q<;>(have:=q.1;rw[g] at this;exact absurd this (by decide))
 have hc:=scOk_of k.1 k.2
 have hnt:=planD_ntracks k.1
 have hg:=planD_groups k.1
 have hf:=planD_frozen k.1
 have hph:=planD_phase k.1 hr.1 hr.2
 have hv:=hf.2 (phN p.2.2.2.2.2.1 s.1) (by omega)
 have hvl:=valS_len p s.2.2.2.2.1 s.1 (phN p.2.2.2.2.2.1 s.1)
 dsimp only
 rw[decide_eq_true rfl,Bool.not_true,cnd_f,decide_eq_true (by omega:((ValS p s.2.2.2.2.1 s.1 (phN p.2.2.2.2.2.1 s.1)).length:Int)=(p.2.2.2.2.2.2.2.1.length:Int)),Bool.not_true,cnd_f,r_phase p k.1 s.1 hr.1 hr.2,bnd_mk,ati_d [] (by omega:phN p.2.2.2.2.2.1 s.1<p.2.2.2.2.2.2.1.length),bnd_mk,hvl]
 generalize phN p.2.2.2.2.2.1 s.1=n at *
 rw[grow_loop _ (fun k=>((k:Int),())) p.2.2.2.2.2.2.2.1.length (Sum.inl ():Unit ⊕ Bool) _ ?_ ?_ ?_]
 ·rfl
 ·rfl
 ·intro i hi
  obtain⟨⟨j,j1,_,e2,e3,v0,v1⟩,g1,g2⟩:=planD_track k.1 s.1 hr.1 hr.2 i hi
  have hvi:=valS_nth p s.2.2.2.2.1 s.1 n i hi
  dsimp only
  rw[lt_true hi,cnd_t,ati_d zTrack hi,bnd_mk,e2,bnd_mk,ati_d zSeg j1,bnd_mk,e3,bnd_mk,g1,g2,ati_d 0 (by omega:i<(ValS p s.2.2.2.2.1 s.1 n).length),hvi,ati_d false (by omega:i / 3<(nth [] p.2.2.2.2.2.2.1 n).length),wr_succ hi (by omega)]
  rw[show nth false (nth [] p.2.2.2.2.2.2.1 n) (i / 3)=isF p n (i / 3) from rfl]
  generalize hX:valF (nth zTrack p.2.2.2.2.2.2.2.1 i).2.2.1 s.1=X at *
  have hlow:∀ {β:Type} (K:Int×Unit->Option β),bnd (cnd (decide (((i % 3:Nat):Int)=0)) (some (!decide (p.2.2.2.2.2.2.2.2.2.2.2.2.2.1=(-1)))) (some false)) (fun j13=>bnd (cnd j13 (some (decide (p.2.2.2.2.2.2.2.2.2.1.2.2.2.2.2.2.1<X))) (some false)) fun j14=>bnd (cnd j14 (some (p.2.2.2.2.2.2.2.2.2.1.2.2.2.2.2.2.1,())) (some (X,()))) K)=K ((if i % 3=0/\p.2.2.2.2.2.2.2.2.2.2.2.2.2.1≠-1 then(if p.2.2.2.2.2.2.2.2.2.1.2.2.2.2.2.2.1<X then p.2.2.2.2.2.2.2.2.2.1.2.2.2.2.2.2.1 else X) else X),()):=by
   intro β K
   by_cases h1:i % 3=0
   ·rw[decide_eq_true (by omega:((i % 3:Nat):Int)=0)]
    by_cases h2:p.2.2.2.2.2.2.2.2.2.2.2.2.2.1=-1
    ·rw[decide_eq_true h2,if_neg (fun z=>z.2 h2)];rfl
    ·rw[decide_eq_false h2,if_pos ⟨h1,h2⟩]
     by_cases h3:p.2.2.2.2.2.2.2.2.2.1.2.2.2.2.2.2.1<X
     ·rw[decide_eq_true h3,if_pos h3];rfl
     ·rw[decide_eq_false h3,if_neg h3];rfl
   ·rw[decide_eq_false (by omega:¬ ((i % 3:Nat):Int)=0),if_neg (fun z=>h1 z.1)];rfl
  refine(hlow _).trans ?_
  have hin:0<=valT p s.2.2.2.2.1 s.1 n i/\valT p s.2.2.2.2.1 s.1 n i<=X/\(isF p n (i / 3)=true->valT p s.2.2.2.2.1 s.1 n i=0)/\(¬ isF p n (i / 3)=true->(if i % 3=0/\p.2.2.2.2.2.2.2.2.2.2.2.2.2.1≠-1 then(if p.2.2.2.2.2.2.2.2.2.1.2.2.2.2.2.2.1<X then p.2.2.2.2.2.2.2.2.2.1.2.2.2.2.2.2.1 else X) else X)<=valT p s.2.2.2.2.1 s.1 n i):=by
   unfold valT
   rw[hX]
   by_cases h1:isF p n (i / 3)=true
   ·rw[if_pos h1]
    exact⟨by omega,by omega,fun _=>rfl,fun z=>(z h1).elim⟩
   ·rw[if_neg h1]
    by_cases h2:i % 3=0/\p.2.2.2.2.2.2.2.2.2.2.2.2.2.1≠-1
    ·have hc:=hc.1 h2.2
     have:=rate_in s.2.2.2.2.1.2.2.1 X p.2.2.2.2.2.2.2.2.2.1.2.2.2.2.2.2.1 hc.1 hc.2.1 v0 hc.2.2
     rw[if_pos h2,if_pos h2]
     exact⟨this.1,this.2.1,fun z=>(h1 z).elim,fun _=>this.2.2⟩
    ·rw[if_neg h2,if_neg h2]
     exact⟨v0,Int.le_refl _,fun z=>(h1 z).elim,fun _=>Int.le_refl _⟩
  generalize (if i % 3=0/\p.2.2.2.2.2.2.2.2.2.2.2.2.2.1≠-1 then(if p.2.2.2.2.2.2.2.2.2.1.2.2.2.2.2.2.1<X then p.2.2.2.2.2.2.2.2.2.1.2.2.2.2.2.2.1 else X) else X)=low at *
  generalize valT p s.2.2.2.2.1 s.1 n i=V at *
  dsimp only
  simp only[bnd_mk]
  rw[decide_eq_false (by omega:¬ V>X),decide_eq_false (by omega:¬ V<0)]
  cases hF:isF p n (i / 3) with
  | true =>
   rw[decide_eq_true (hin.2.2.1 hF)]
   rfl
  | false =>
   rw[decide_eq_false (by have:=hin.2.2.2 (by rw[hF];exact Bool.false_ne_true);omega:¬ V<low)]
   rfl
 ·dsimp only
  rw[lt_false]
  rfl
end Go.Proofs.YtmomjjgokeffnaaGreat.F
