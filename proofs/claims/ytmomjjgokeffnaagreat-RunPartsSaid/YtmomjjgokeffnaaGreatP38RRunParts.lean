/- The whole step: the program's and the reference's. -/
import Derived.Test.YtmomjjgokeffnaaGreatP38ZRunParts
set_option linter.unusedVariables false
set_option linter.unusedSectionVars false
set_option linter.unusedSimpArgs false
namespace Go.Proofs.YtmomjjgokeffnaaGreat.F
open Go.VX
open Classical
structure StepH (p:PlanD) (s:StateD) (x:InD):Prop where
 hp:PlanOkD p
 hs:StateOkD p s
 hg:s.2.1=0
 hx:InOk p x
 hi:InE s x
section
variable {p:PlanD} {s:StateD} {x:InD} (H:StepH p s x)
include H
theorem stepH_range:0<=s.1/\s.1<p.1/\p.1<=1000000:=by
 have h1:=H.hs.1
 have h2:=planD_head H.hp
 have h3:=H.hg
 rcases h1 with k | k
 ·exact⟨k.2.1,k.2.2.1,h2.2⟩
 ·rcases k.2 with k | k | k<;>(have:=k.1;rw[h3] at this;exact absurd this (by decide))
theorem stepH_len:x.1.length<=4/\x.2.1.length<=16/\s.2.2.2.2.2.1.length<=16:=by
 have h1:HeadOk _ _ _ _ _:=H.hp.1
 unfold HeadOk at h1
 have h2:=H.hx
 have h3:=stateD_len H.hp H.hs
 exact⟨by have:=h2.1;omega,by have:=h2.2.1;omega,h3.1⟩
theorem stepH_on:-1<=p.2.2.2.2.2.2.2.2.2.2.2.2.1/\p.2.2.2.2.2.2.2.2.2.2.2.2.1<(x.1.length:Int)/\-1<=p.2.2.2.2.2.2.2.2.2.2.2.2.2.1/\p.2.2.2.2.2.2.2.2.2.2.2.2.2.1<(x.1.length:Int)/\-1<=p.2.2.2.2.2.2.2.2.2.2.2.2.2.2.1/\p.2.2.2.2.2.2.2.2.2.2.2.2.2.2.1<(x.1.length:Int):=by
 obtain⟨_,_,_,_,h1,h2,h3,_⟩:=H.hp
 have h4:=H.hx.1
 unfold StopOk SeenOk at h1
 unfold CutOk SeenOk at h2
 unfold KeepOk SeenOk at h3
 refine⟨?_,?_,?_,?_,?_,?_⟩<;>omega
theorem stepH_keep(h:Seen x.1 p.2.2.2.2.2.2.2.2.2.2.2.2.2.2.1):0<=p.2.2.2.2.2.2.2.2.2.2.1.2.2.2.1:=by
 obtain⟨_,_,_,_,_,_,h3,_⟩:=H.hp
 have:=h.1
 unfold KeepOk at h3
 omega
theorem stepH_cut(h:Seen x.1 p.2.2.2.2.2.2.2.2.2.2.2.2.2.1):In64 p.2.2.2.2.2.2.2.2.2.1.2.2.2.2.2.2.2.1/\In64 p.2.2.2.2.2.2.2.2.2.1.2.2.2.1/\In64 s.2.2.2.2.1.2.1/\In64 s.2.2.2.2.1.2.2.1:=by
 obtain⟨_,_,_,_,_,h3,_,_⟩:=H.hp
 have h4:=H.hs.2.2.1
 have:=h.1
 unfold CutOk at h3
 unfold CutSt CutStOk at h4
 unfold In64
 refine⟨?_,?_,?_,?_⟩<;>omega
theorem stepH_stop(h:Seen x.1 p.2.2.2.2.2.2.2.2.2.2.2.2.1):In64 p.2.2.2.2.2.2.2.2.1.2.2.2.2.1/\1<=p.2.2.2.2.2.2.2.2.1.2.2.2.1:=by
 obtain⟨_,_,_,_,h3,_⟩:=H.hp
 have:=h.1
 unfold StopOk at h3
 unfold In64
 refine⟨?_,?_⟩<;>omega
theorem evX_len:(evM p s x).length<=4:=by
 have:=evM_len p s x
 have:=stepH_len H
 omega
omit H in
theorem if_and2{α:Type} {A B:Prop} [Decidable B] {_:Decidable (A/\B)} (h:A) (a b:α):(if A/\B then a else b)=if B then a else b:=if_same ⟨fun k=>k.2,fun k=>⟨h,k⟩⟩
theorem p_look(em:List Int) (sm:SumD) (n:Int) (ev:List EvD) (he:ev.length<=100) (hk:LkN p s) :
  engine_turn_look (((),()),(p,(s.1,s.2.1,s.2.2.1,s.2.2.2.1,s.2.2.2.2.1,s.2.2.2.2.2.1,em,sm,()),x,s.1,n,ev,()),())=some ((),(p,(s.1,if OutN p s x then 2 else s.2.1,if OutN p s x then s.1 else s.2.2.1,stopN p s x,cutN p s x,keptN p s x,em,sm,()),x,s.1,n,ev++(evM p s x++(evK p s x++(evD p s x++(evC p s x++evS p s x)))),()),()):=by
 have hl:=stepH_len H
 have ho:=stepH_on H
 have hM:evG (missN p x) s.1 6 x.1.length=evM p s x:=by unfold evM;rw[if_pos hk]
 have hml:=evX_len H
 have hkl:(evK p s x).length<=1:=len_if1 _ _
 have hdl:(evD p s x).length<=1:=len_if1 _ _
 have hcl:(evC p s x).length<=1:=len_if1 _ _
 unfold engine_turn_look
 dsimp only
 rw[p_missing p _ x s.1 n ev (by omega) (by omega),bnd_mk,hM]
 dsimp only
 obtain⟨v3,q3,e3,f3,g3⟩:=p_rof x p.2.2.2.2.2.2.2.2.2.2.2.2.2.2.1 ho.2.2.2.2.2
 obtain⟨v2,q2,e2,f2,g2⟩:=p_rof x p.2.2.2.2.2.2.2.2.2.2.2.2.2.1 ho.2.2.2.1
 obtain⟨v1,q1,e1,f1,g1⟩:=p_rof x p.2.2.2.2.2.2.2.2.2.2.2.2.1 ho.2.1
 rw[show reading_Of ((x.1,x.2.1,()),p.2.2.2.2.2.2.2.2.2.2.2.2.2.2.1,())=_ from e3,bnd_mk]
 dsimp only
 have s3:∀ {β:Type} (K:TurnD×Unit->Option β),bnd (cnd q3 (bnd (engine_turn_keeps (((),v3,()),(p,(s.1,s.2.1,s.2.2.1,s.2.2.2.1,s.2.2.2.2.1,s.2.2.2.2.2.1,em,sm,()),x,s.1,n,ev++evM p s x,()),())) fun r4=>some (r4.2.1,())) (some ((p,(s.1,s.2.1,s.2.2.1,s.2.2.2.1,s.2.2.2.2.1,s.2.2.2.2.2.1,em,sm,()),x,s.1,n,ev++evM p s x,()),()))) K=K ((p,(s.1,s.2.1,s.2.2.1,s.2.2.2.1,s.2.2.2.2.1,keptN p s x,em,sm,()),x,s.1,n,ev++evM p s x++(evK p s x++evD p s x),()),()):=by
  intro β K
  unfold keptN evK evD
  by_cases h:Seen x.1 p.2.2.2.2.2.2.2.2.2.2.2.2.2.2.1
  ·have hK:KeN p s x:=⟨hk,h⟩
   rw[f3.2 h,cnd_t,g3 h,p_keeps p s.1 s.2.1 s.2.2.1 s.2.2.2.1 s.2.2.2.2.1 s.2.2.2.2.2.1 em sm x n _ _ (by rw[List.length_append];omega) (stepH_keep H h) (by omega) H.hi.kr (valR_in H.hi.xr ho.2.2.2.2.2 h),bnd_mk,bnd_mk,if_pos hK,if_and2 hK,if_and2 hK]
   rfl
  ·have hK:¬ KeN p s x:=fun k=>h k.2
   rw[show q3=false from by cases q3 with | false=>rfl | true=>exact(h (f3.1 rfl)).elim,cnd_f,if_neg hK,if_neg (fun k=>hK k.1),if_neg (fun k=>hK k.1),List.append_nil,List.append_nil]
   rfl
 rw[show engine_turn_keeps (((),v3,()),(p,(s.1,s.2.1,s.2.2.1,s.2.2.2.1,s.2.2.2.2.1,s.2.2.2.2.2.1,em,sm,()),x,s.1,n,ev++evM p s x,()),())=_ from rfl]
 refine(s3 _).trans ?_
 dsimp only
 rw[show reading_Of ((x.1,x.2.1,()),p.2.2.2.2.2.2.2.2.2.2.2.2.2.1,())=_ from e2,bnd_mk]
 dsimp only
 obtain⟨eva,heva⟩:∃ e,e=ev++evM p s x++(evK p s x++evD p s x):=⟨_,rfl⟩
 have hla:eva.length<=120:=by rw[heva,List.length_append,List.length_append,List.length_append];omega
 rw[← heva]
 have s2:∀ {β:Type} (K:TurnD×Unit->Option β),bnd (cnd q2 (bnd (engine_turn_cuts (((),v2,()),(p,(s.1,s.2.1,s.2.2.1,s.2.2.2.1,s.2.2.2.2.1,keptN p s x,em,sm,()),x,s.1,n,eva,()),())) fun r4=>some (r4.2.1,())) (some ((p,(s.1,s.2.1,s.2.2.1,s.2.2.2.1,s.2.2.2.2.1,keptN p s x,em,sm,()),x,s.1,n,eva,()),()))) K=K ((p,(s.1,s.2.1,s.2.2.1,s.2.2.2.1,cutN p s x,keptN p s x,em,sm,()),x,s.1,n,eva++evC p s x,()),()):=by
  intro β K
  unfold cutN evC cutR
  by_cases h:Seen x.1 p.2.2.2.2.2.2.2.2.2.2.2.2.2.1
  ·have hC:CuN p s x:=⟨hk,h⟩
   obtain⟨c1,c2,c3,c4⟩:=stepH_cut H h
   rw[f2.2 h,cnd_t,g2 h,p_cuts p s.1 s.2.1 s.2.2.1 s.2.2.2.1 s.2.2.2.2.1 (keptN p s x) em sm x n _ _ (by omega) (valR_in H.hi.xr ho.2.2.2.1 h) H.hi.cb c1 c3 c4 c2,bnd_mk,bnd_mk,if_pos hC,if_and2 hC]
  ·have hC:¬ CuN p s x:=fun k=>h k.2
   rw[show q2=false from by cases q2 with | false=>rfl | true=>exact(h (f2.1 rfl)).elim,cnd_f,if_neg hC,if_neg (fun k=>hC k.1),List.append_nil]
   rfl
 refine(s2 _).trans ?_
 dsimp only
 rw[show reading_Of ((x.1,x.2.1,()),p.2.2.2.2.2.2.2.2.2.2.2.2.1,())=_ from e1,bnd_mk]
 dsimp only
 obtain⟨evb,hevb⟩:∃ e,e=eva++evC p s x:=⟨_,rfl⟩
 have hlb:evb.length<=130:=by rw[hevb,List.length_append];omega
 rw[← hevb]
 have s1:∀ {β:Type} (K:TurnD×Unit->Option β),bnd (cnd q1 (bnd (engine_turn_stops (((),v1,()),(p,(s.1,s.2.1,s.2.2.1,s.2.2.2.1,cutN p s x,keptN p s x,em,sm,()),x,s.1,n,evb,()),())) fun r4=>some (r4.2.1,())) (some ((p,(s.1,s.2.1,s.2.2.1,s.2.2.2.1,cutN p s x,keptN p s x,em,sm,()),x,s.1,n,evb,()),()))) K=K ((p,(s.1,if OutN p s x then 2 else s.2.1,if OutN p s x then s.1 else s.2.2.1,stopN p s x,cutN p s x,keptN p s x,em,sm,()),x,s.1,n,evb++evS p s x,()),()):=by
  intro β K
  unfold evS OutN stopN
  by_cases h:Seen x.1 p.2.2.2.2.2.2.2.2.2.2.2.2.1
  ·have hS:StN p s x:=⟨hk,h⟩
   obtain⟨c1,c2⟩:=stepH_stop H h
   rw[f1.2 h,cnd_t,g1 h,p_stops p s.1 s.2.1 s.2.2.1 s.2.2.2.1 (cutN p s x) (keptN p s x) em sm x n _ _ (by omega) (valR_in H.hi.xr ho.2.1 h) H.hi.sb c1 c2,bnd_mk,bnd_mk,if_pos hS,if_and2 hS,if_and2 hS,if_and2 hS]
  ·have hS:¬ StN p s x:=fun k=>h k.2
   rw[show q1=false from by cases q1 with | false=>rfl | true=>exact(h (f1.1 rfl)).elim,cnd_f,if_neg hS,if_neg (fun k=>hS k.1),if_neg (fun k=>hS k.1),if_neg (fun k=>hS k.1),List.append_nil]
   rfl
 refine(s1 _).trans ?_
 rw[hevb,heva]
 simp only[List.append_assoc]
end
end Go.Proofs.YtmomjjgokeffnaaGreat.F
