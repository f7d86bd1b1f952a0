/- Values of a step: the program's and the reference's. -/
import Derived.Test.YtmomjjgokeffnaaGreatP38QRunParts
import Derived.Test.YtmomjjgokeffnaaGreatP54RunParts
import Derived.Test.YtmomjjgokeffnaaGreatPYQRunParts
set_option linter.unusedVariables false
set_option linter.unusedSectionVars false
set_option linter.unusedSimpArgs false
namespace Go.Proofs.YtmomjjgokeffnaaGreat.F
open Go.VX
open Classical
noncomputable def rowS(p:PlanD) (step:Int):List Int:=p.2.2.2.2.2.2.2.1.map fun t=>valF t.2.2.1 step
theorem track_at(l:List SegD) (n step:Int) (hs:SegsOk l) (h0:0<l.length) (hf:(nth zSeg l 0).1=0) (ht:(nth zSeg l (l.length-1)).2.1=n) (hn:n<=1000000) (s0:0<=step) (s1:step<n) :
  ∃ i:Nat,i<l.length/\segs_At (l,step,())=some (valF l step,0,())/\q24_Find (l,step,())=some (i:Int)/\q24_Value (nth zSeg l i,step,())=some (valF l step)/\0<=valF l step/\valF l step<=4503599627370496:=by
 obtain⟨_,_,b1,b2⟩:=segs_val l step hs h0 (seg_len l hs n ht hn)
 obtain⟨j,hj⟩:=cover step l hs (by omega) (l.length-1) (by omega) (by omega)
 rcases p_segat l step hs h0 (seg_len l hs n ht hn) with⟨i,v,h1,h2,_,h4,h5,_⟩ | ⟨h,_⟩
 ·have hv:valF l step=v:=by unfold valF;rw[h2]
  rw[hv] at b1 b2 ⊢
  exact⟨i,h1.1,h2,h4,h5,b1,b2⟩
 ·exact(h j hj).elim
theorem planD_track{p:PlanD} (h:PlanOkD p) (step:Int) (s0:0<=step) (s1:step<p.1) (k:Nat) (hk:k<p.2.2.2.2.2.2.2.1.length) :
  (∃ i:Nat,i<(nth zTrack p.2.2.2.2.2.2.2.1 k).2.2.1.length/\segs_At ((nth zTrack p.2.2.2.2.2.2.2.1 k).2.2.1,step,())=some (valF (nth zTrack p.2.2.2.2.2.2.2.1 k).2.2.1 step,0,())/\q24_Find ((nth zTrack p.2.2.2.2.2.2.2.1 k).2.2.1,step,())=some (i:Int)/\q24_Value (nth zSeg (nth zTrack p.2.2.2.2.2.2.2.1 k).2.2.1 i,step,())=some (valF (nth zTrack p.2.2.2.2.2.2.2.1 k).2.2.1 step)/\0<=valF (nth zTrack p.2.2.2.2.2.2.2.1 k).2.2.1 step/\valF (nth zTrack p.2.2.2.2.2.2.2.1 k).2.2.1 step<=4503599627370496)/\(nth zTrack p.2.2.2.2.2.2.2.1 k).1=((k / 3:Nat):Int)/\(nth zTrack p.2.2.2.2.2.2.2.1 k).2.1=((k % 3:Nat):Int):=by
 have hn:=planD_ntracks h
 obtain⟨t1,t2,t3,t4,t5,t6⟩:=planD_tracks h k hk
 refine⟨track_at _ _ step t3 t4 t5 t6 (planD_head h).2 s0 s1,?_,?_⟩
 ·rw[t1,Int.tdiv_eq_ediv_of_nonneg (by omega),wr_id (by omega) (by omega)]
  rfl
 ·rw[t2,Int.tmod_eq_emod_of_nonneg (by omega)]
  rfl
theorem p_rowD(p:PlanD) (w:WfP p) (h:PlanOkD p) (step:Int) (s0:0<=step) (s1:step<p.1):plan_Row (p,step,())=some (rowS p step,0,()):=by
 have hn:=planD_ntracks h
 unfold plan_Row
 dsimp only
 rw[p_planD p w,if_pos h,bnd_mk,decide_eq_true rfl,Bool.not_true,cnd_f]
 rw[grow_loop _ (fun k=>((p.2.2.2.2.2.2.2.1.take k).map (fun t=>valF t.2.2.1 step),(k:Int),(p.2.2.2.2.2.2.2.1.take k).map (fun t=>valF t.2.2.1 step),())) p.2.2.2.2.2.2.2.1.length (Sum.inl (rowS p step,rowS p step,()):(List Int×List Int×Unit) ⊕ (List Int×Int×Unit)) _ ?_ ?_ ?_]
 ·rfl
 ·rfl
 ·intro k hk
  obtain⟨⟨i,_,e1,_⟩,_⟩:=planD_track h step s0 s1 k hk
  dsimp only
  rw[lt_true hk,cnd_t,ati_d zTrack hk,bnd_mk,e1,bnd_mk,decide_eq_true rfl,Bool.not_true,cnd_f,app_ok (by rw[List.length_map,List.length_take,List.length_singleton];omega),bnd_mk,wr_succ hk (by omega),List.take_succ_eq_append_getElem hk,List.map_append,show p.2.2.2.2.2.2.2.1[k]=nth zTrack p.2.2.2.2.2.2.2.1 k by simp [nth,List.getD,hk]]
  rfl
 ·dsimp only
  rw[lt_false,List.take_length]
  rfl
theorem rowS_len(p:PlanD) (step:Int):(rowS p step).length=p.2.2.2.2.2.2.2.1.length:=by
 unfold rowS
 rw[List.length_map]
theorem rowS_nth(p:PlanD) (step:Int) (k:Nat) (hk:k<p.2.2.2.2.2.2.2.1.length):nth 0 (rowS p step) k=valF (nth zTrack p.2.2.2.2.2.2.2.1 k).2.2.1 step:=by
 unfold rowS
 exact nth_map zTrack 0 _ hk
noncomputable def valT(p:PlanD) (c:CutSD) (step:Int) (n:Nat) (k:Nat):Int :=
 if isF p n (k / 3)=true then 0 else if k % 3=0/\p.2.2.2.2.2.2.2.2.2.2.2.2.2.1≠-1 then RateS c.2.2.1 (valF (nth zTrack p.2.2.2.2.2.2.2.1 k).2.2.1 step) p.2.2.2.2.2.2.2.2.2.1.2.2.2.2.2.2.1 else valF (nth zTrack p.2.2.2.2.2.2.2.1 k).2.2.1 step
noncomputable def ValS(p:PlanD) (c:CutSD) (step:Int) (n:Nat):List Int:=(List.range p.2.2.2.2.2.2.2.1.length).map (valT p c step n)
theorem valS_len(p:PlanD) (c:CutSD) (step:Int) (n:Nat):(ValS p c step n).length=p.2.2.2.2.2.2.2.1.length:=by
 unfold ValS
 rw[List.length_map,List.length_range]
theorem nth_range(n k:Nat) (h:k<n) (F:Nat->Int):nth 0 ((List.range n).map F) k=F k:=by
 simp [nth,List.getD,h]
theorem valS_nth(p:PlanD) (c:CutSD) (step:Int) (n:Nat) (k:Nat) (hk:k<p.2.2.2.2.2.2.2.1.length):nth 0 (ValS p c step n) k=valT p c step n k:=nth_range _ _ hk _
def ScOk(p:PlanD) (c:CutSD):Prop:=p.2.2.2.2.2.2.2.2.2.2.2.2.2.1≠-1->0<=c.2.2.1/\c.2.2.1<=4294967296/\0<=p.2.2.2.2.2.2.2.2.2.1.2.2.2.2.2.2.1
theorem scOk_of{p:PlanD} {s:StateD} (hp:PlanOkD p) (hs:StateOkD p s):ScOk p s.2.2.2.2.1/\-1<=p.2.2.2.2.2.2.2.2.2.2.2.2.2.1:=by
 obtain⟨_,_,_,_,_,h3,_,_⟩:=hp
 have h4:=hs.2.2.1
 unfold CutOk SeenOk at h3
 unfold CutSt CutStOk at h4
 refine⟨fun h=>?_,by omega⟩
 refine⟨?_,?_,?_⟩<;>omega
theorem nth_app2(a b:List Int) (k:Nat):nth 0 (a++b) k=if k<a.length then nth 0 a k else nth 0 b (k-a.length):=by
 unfold nth
 rw[List.getD_eq_getElem?_getD,List.getElem?_append]
 split<;>rfl
theorem nth_drop2(l:List Int) (n k:Nat):nth 0 (l.drop n) k=nth 0 l (n+k):=by
 unfold nth
 rw[List.getD_eq_getElem?_getD,List.getElem?_drop]
 rfl
theorem nth_rep2(n k:Nat):nth 0 (List.replicate n (0:Int)) k=0:=by
 unfold nth
 rw[List.getD_eq_getElem?_getD,List.getElem?_replicate]
 split<;>rfl
theorem p_values(p:PlanD) (s:StateD) (w:WfP p) (h:PlanOkD p) (hc:ScOk p s.2.2.2.2.1) (ho:-1<=p.2.2.2.2.2.2.2.2.2.2.2.2.2.1) (s0:0<=s.1) (s1:s.1<p.1) (n:Nat) (hn:n=phN p.2.2.2.2.2.1 s.1):engine_values (p,s,(n:Int),())=some (ValS p s.2.2.2.2.1 s.1 n):=by
 have hnt:=planD_ntracks h
 have hg:=planD_groups h
 have hf:=planD_frozen h
 have hph:=planD_phase h s0 s1
 rw[← hn] at hph
 have hv:=hf.2 n (by omega)
 have hrl:=rowS_len p s.1
 have hvl:=valS_len p s.2.2.2.2.1 s.1 n
 unfold engine_values
 dsimp only
 rw[p_rowD p w h s.1 s0 s1,bnd_mk,ati_d [] (by omega:n<p.2.2.2.2.2.2.1.length),bnd_mk]
 dsimp only
 rw[grow_loop _ (fun g=>((g:Int),(ValS p s.2.2.2.2.1 s.1 n).take (3*g)++(rowS p s.1).drop (3*g),())) (nth [] p.2.2.2.2.2.2.1 n).length (ValS p s.2.2.2.2.1 s.1 n,()) _ ?_ ?_ ?_]
 ·rfl
 ·simp
 ·intro g hgk
  dsimp only
  rw[lt_true hgk,cnd_t,ati_d false hgk,bnd_mk,wr_id (x:=(g:Int)*3) (by omega) (by omega),wr_id (x:=(g:Int)*3+3) (by omega) (by omega),wr_id (x:=(g:Int)*3+0) (by omega) (by omega),wr_succ hgk (by omega),Int.add_zero]
  rw[show nth false (nth [] p.2.2.2.2.2.2.1 n) g=isF p n g from rfl]
  have hB:∀ k,3*g<=k->k<3*g+3->k / 3=g:=fun k _ _=>by omega
  have hlen:((ValS p s.2.2.2.2.1 s.1 n).take (3*g)++(rowS p s.1).drop (3*g)).length=p.2.2.2.2.2.2.2.1.length:=by rw[List.length_append,List.length_take,List.length_drop];omega
  have hnth:∀ k,k<p.2.2.2.2.2.2.2.1.length->nth 0 ((ValS p s.2.2.2.2.1 s.1 n).take (3*g)++(rowS p s.1).drop (3*g)) k=if k<3*g then valT p s.2.2.2.2.1 s.1 n k else valF (nth zTrack p.2.2.2.2.2.2.2.1 k).2.2.1 s.1:=by
   intro k hk
   rw[nth_app2,List.length_take]
   by_cases hc:k<3*g
   ·rw[if_pos (by omega),if_pos hc,nth_take _ _ _ _ hc]
    exact valS_nth p _ _ n k hk
   ·rw[if_neg (by omega),if_neg hc,nth_drop2,show 3*g+(k-min (3*g) (ValS p s.2.2.2.2.1 s.1 n).length)=k by omega]
    exact rowS_nth p _ k hk
  have hgoal:∀ l:List Int,l.length=p.2.2.2.2.2.2.2.1.length->(∀ k,k<p.2.2.2.2.2.2.2.1.length->nth 0 l k=if k<3*(g+1) then valT p s.2.2.2.2.1 s.1 n k else valF (nth zTrack p.2.2.2.2.2.2.2.1 k).2.2.1 s.1)->l=(ValS p s.2.2.2.2.1 s.1 n).take (3*(g+1))++(rowS p s.1).drop (3*(g+1)):=by
   intro l hl hk
   refine nth_ext 0 (by rw[List.length_append,List.length_take,List.length_drop];omega) fun k hkl=>?_
   rw[hk k (by omega),nth_app2,List.length_take]
   by_cases hc:k<3*(g+1)
   ·rw[if_pos hc,if_pos (by omega),nth_take _ _ _ _ hc]
    exact(valS_nth p _ _ n k (by omega)).symm
   ·rw[if_neg hc,if_neg (by omega),nth_drop2,show 3*(g+1)+(k-min (3*(g+1)) (ValS p s.2.2.2.2.1 s.1 n).length)=k by omega]
    exact(rowS_nth p _ k (by omega)).symm
  generalize (ValS p s.2.2.2.2.1 s.1 n).take (3*g)++(rowS p s.1).drop (3*g)=r at *
  cases hF:isF p n g with
  | true =>
   have hv:vw (List.length (rowS p s.1)) ((g:Int)*3) ((g:Int)*3+3)=some (true,(g:Int)*3,(g:Int)*3+3):=by
    unfold vw
    rw[if_pos (by omega)]
   have hcl:clr r ((g:Int)*3) ((g:Int)*3+3) 0=some (r.take (3*g)++List.replicate 3 0++r.drop (3*g+3)):=by
    unfold clr
    rw[if_pos (by omega),show((g:Int)*3).toNat=3*g by omega,show((g:Int)*3+3).toNat=3*g+3 by omega,show 3*g+3-3*g=3 by omega]
   rw[cnd_t,hv,bnd_mk]
   dsimp only
   rw[hcl,bnd_mk,bnd_mk]
   dsimp only
   rw[hgoal (r.take (3*g)++List.replicate 3 0++r.drop (3*g+3)) (by simp;omega) (fun k hk=>?_)]
   ·rfl
   have h1:=hnth k hk
   rw[nth_app2,nth_app2,List.length_append,List.length_take,List.length_replicate]
   by_cases c1:k<3*g
   ·rw[if_pos (by omega),if_pos (by omega),if_pos (by omega),nth_take _ _ _ _ c1,h1,if_pos c1]
   ·by_cases c2:k<3*g+3
    ·rw[if_pos (by omega),if_neg (by omega),if_pos (by omega),nth_rep2]
     unfold valT
     rw[hB k (by omega) c2,if_pos hF]
    ·rw[if_neg (by omega),if_neg (by omega),nth_drop2,show 3*g+3+(k-(min (3*g) r.length+3))=k by omega,h1,if_neg c1]
  | false =>
   rw[cnd_f]
   have hi:(3*g)<(rowS p s.1).length:=by omega
   rw[show(g:Int)*3=((3*g:Nat):Int) by omega,inR_ok hi,bnd_mk,ati_d 0 (by omega:3*g<r.length)]
   by_cases h2:p.2.2.2.2.2.2.2.2.2.2.2.2.2.1=-1
   ·rw[decide_eq_false (by omega:¬ p.2.2.2.2.2.2.2.2.2.2.2.2.2.1>=0),cnd_f,bnd_mk,bnd_mk]
    dsimp only
    rw[hgoal r hlen (fun k hk=>?_)]
    ·rfl
    rw[hnth k hk]
    by_cases c1:k<3*g
    ·rw[if_pos c1,if_pos (by omega)]
    ·rw[if_neg c1]
     by_cases c2:k<3*(g+1)
     ·rw[if_pos c2]
      unfold valT
      rw[hB k (by omega) (by omega),if_neg (by rw[hF];exact Bool.false_ne_true),if_neg (fun q=>q.2 h2)]
     ·rw[if_neg c2]
   ·have hc:=hc h2
    have hr0:=hnth (3*g) (by omega)
    rw[if_neg (by omega)] at hr0
    obtain⟨⟨_,_,_,_,_,v0,v1⟩,_⟩:=planD_track h s.1 s0 s1 (3*g) (by omega)
    rw[decide_eq_true (by omega:p.2.2.2.2.2.2.2.2.2.2.2.2.2.1>=0),cnd_t,bnd_mk,hr0,p_prate _ _ _ hc.1 hc.2.1 v0 v1,bnd_mk,bnd_mk,ati_d 0 (by omega:3*g<r.length),bnd_mk,bnd_mk,bnd_mk]
    dsimp only
    rw[Int.toNat_natCast,hgoal (r.set (3*g) (RateS s.2.2.2.2.1.2.2.1 (valF (nth zTrack p.2.2.2.2.2.2.2.1 (3*g)).2.2.1 s.1) p.2.2.2.2.2.2.2.2.2.1.2.2.2.2.2.2.1)) (by rw[List.length_set];omega) (fun k hk=>?_)]
    ·rfl
    rw[nth_set 0 _ _ _ _ (by omega)]
    by_cases c0:3*g=k
    ·rw[if_pos c0,if_pos (by omega)]
     subst c0
     unfold valT
     rw[hB (3*g) (by omega) (by omega),if_neg (by rw[hF];exact Bool.false_ne_true),if_pos ⟨by omega,h2⟩]
    ·rw[if_neg c0,hnth k hk]
     by_cases c1:k<3*g
     ·rw[if_pos c1,if_pos (by omega)]
     ·rw[if_neg c1]
      by_cases c2:k<3*(g+1)
      ·rw[if_pos c2]
       unfold valT
       rw[hB k (by omega) (by omega),if_neg (by rw[hF];exact Bool.false_ne_true),if_neg (fun q=>by have:=q.1;omega)]
      ·rw[if_neg c2]
 ·have e:(nth [] p.2.2.2.2.2.2.1 n).length*3=p.2.2.2.2.2.2.2.1.length:=by omega
  dsimp only
  rw[lt_false,cnd_f,List.take_of_length_le (by omega),List.drop_of_length_le (by omega),List.append_nil]
  rfl
end Go.Proofs.YtmomjjgokeffnaaGreat.F
