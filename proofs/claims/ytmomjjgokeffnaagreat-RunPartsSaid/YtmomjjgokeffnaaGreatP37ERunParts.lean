/- States and plans as one: which states any plan has. -/
import Derived.Test.YtmomjjgokeffnaaGreatP37DRunParts
import Derived.Test.YtmomjjgokeffnaaGreatP28DRunParts
set_option linter.unusedVariables false
set_option linter.unusedSimpArgs false
namespace Go.Proofs.YtmomjjgokeffnaaGreat.F
open Go.VX
open Classical
def StateOkD(p:PlanD) (s:StateD):Prop:=StateOk p.1 p.2.1 p.2.2.2.2.1 p.2.2.2.2.2.2.2.2.1 p.2.2.2.2.2.2.2.2.2.1 p.2.2.2.2.2.2.2.2.2.2.1 p.2.2.2.2.2.2.2.2.2.2.2.1 p.2.2.2.2.2.2.2.2.2.2.2.2.1 p.2.2.2.2.2.2.2.2.2.2.2.2.2.1 p.2.2.2.2.2.2.2.2.2.2.2.2.2.2.1 p.2.2.2.2.2.2.2.2.2.2.2.2.2.2.2.1 p.2.2.2.2.2.2.2.2.2.2.2.2.2.2.2.2.1 s
structure InS (s:StateD):Prop where
 step:In64 s.1
 kl:s.2.2.2.2.2.1.length<=9223372036854775807
 el:s.2.2.2.2.2.2.1.length<=9223372036854775807
 sl:s.2.2.2.2.2.2.2.1.2.1.length<=9223372036854775807
 kr:∀ x∈s.2.2.2.2.2.1,In64 x.2.1
theorem p_stateD(p:PlanD) (s:StateD) (w:WfP p) (h:InS s):state_Check (p,s,())=some (if PlanOkD p/\StateOkD p s then 0 else 1):=by
 obtain⟨a0,a1,a2,a3,a4,sp,fz,tr,st,cu,ke,em,o1,o2,o3,sf,se,_⟩:=p
 exact p_state a0 a1 a2 a3 a4 sp fz tr st cu ke em o1 o2 o3 sf se s w.sp w.fz w.tr w.sg h.kl h.kr h.step
theorem r_same01(a b:List Int) (hl:a.length<=9223372036854775807):q01_Same (a,b,())=some (decide (a=b)):=by
 unfold q01_Same
 by_cases h:a.length=b.length
 ·rcases eq_loop (fun x y:Int=>decide (x=y)) (fun x y=>by simp) a b h hl false (fun _=>some true) with⟨h1,h2⟩ | ⟨h1,h2⟩
  ·dsimp only
   rw[len_nat,decide_eq_true h,decide_eq_true h1]
   exact h2
  ·dsimp only
   rw[len_nat,decide_eq_true h,decide_eq_false h1]
   exact h2
 ·dsimp only
  rw[len_nat,decide_eq_false h,decide_eq_false (fun e=>h (by rw[e]))]
  rfl
theorem r_same32(a b:List KeptD) (hl:a.length<=9223372036854775807):q32_Same (a,b,())=some (decide (a=b)):=by
 unfold q32_Same
 by_cases h:a.length=b.length
 ·rcases eq_loop (eqT (.pr (.int .i64) (.pr (.int .i64) .unit))) (eqT_iff _ rfl) a b h hl false (fun _=>some true) with⟨h1,h2⟩ | ⟨h1,h2⟩
  ·dsimp only
   rw[len_nat,decide_eq_true h,decide_eq_true h1]
   exact h2
  ·dsimp only
   rw[len_nat,decide_eq_true h,decide_eq_false h1]
   exact h2
 ·dsimp only
  rw[len_nat,decide_eq_false h,decide_eq_false (fun e=>h (by rw[e]))]
  rfl
theorem r_sameD(X Y:StateD) (h:InS X):q37_Same (X,Y,())=some (decide (X=Y)):=by
 obtain⟨x1,x2,x3,x4,x5,x6,x7,⟨x8,x9,_⟩,_⟩:=X
 obtain⟨y1,y2,y3,y4,y5,y6,y7,⟨y8,y9,_⟩,_⟩:=Y
 have h1:=h.kl
 have h2:=h.el
 have h3:=h.sl
 dsimp only at h1 h2 h3
 suffices hq:∃ q,q37_Same ((x1,x2,x3,x4,x5,x6,x7,(x8,x9,()),()),(y1,y2,y3,y4,y5,y6,y7,(y8,y9,()),()),())=some q/\(q=true↔((x1,x2,x3,x4,x5,x6,x7,(x8,x9,()),()):StateD)=(y1,y2,y3,y4,y5,y6,y7,(y8,y9,()),())) by
  obtain⟨q,e,f⟩:=hq
  refine e.trans (congrArg some ?_)
  cases q with
  | true=>exact(decide_eq_true (f.1 rfl)).symm
  | false=>exact(decide_eq_false (fun k=>Bool.false_ne_true (f.2 k))).symm
 have e1:=r_same32 x6 y6 h1
 have e2:=r_same01 x7 y7 h2
 have e3:=r_same01 x9 y9 h3
 unfold q37_Same
 dsimp only
 rw[e1,e2,e3]
 have w:=eqT_iff tWatch rfl x4 y4
 have c:=eqT_iff tCutS rfl x5 y5
 have f1:decide (x6=y6)=true↔x6=y6:=decide_eq_true_iff
 have f2:decide (x7=y7)=true↔x7=y7:=decide_eq_true_iff
 have f3:decide (x9=y9)=true↔x9=y9:=decide_eq_true_iff
 generalize eqT tWatch x4 y4=bw at *
 generalize eqT tCutS x5 y5=bc at *
 generalize decide (x6=y6)=q1 at *
 generalize decide (x7=y7)=q2 at *
 generalize decide (x9=y9)=q3 at *
 by_cases k1:x1=y1
 ·by_cases k2:x2=y2
  ·by_cases k3:x3=y3
   ·by_cases k8:x8=y8
    ·subst k1 k2 k3 k8
     refine⟨bw&&(bc&&(q1&&(q2&&q3))),by cases bw<;>cases bc<;>cases q1<;>cases q2<;>cases q3<;>simp [bnd_mk,cnd_t,cnd_f],?_⟩
     simp only[Bool.and_eq_true,w,c,f1,f2,f3,Prod.mk.injEq,true_and,and_true]
    ·exact⟨false,by cases bw<;>cases bc<;>simp [k1,k2,k3,k8,bnd_mk,cnd_t,cnd_f],by simp [k8]⟩
   ·exact⟨false,by simp [k1,k2,k3,bnd_mk,cnd_t,cnd_f],by simp [k3]⟩
  ·exact⟨false,by simp [k1,k2,bnd_mk,cnd_t,cnd_f],by simp [k2]⟩
 ·exact⟨false,by simp [k1,bnd_mk,cnd_t,cnd_f],by simp [k1]⟩
theorem light37(s:StateD):l37_Light (s,())=some (decide (s.2.2.2.2.2.1.length<=30/\s.2.2.2.2.2.2.1.length<=30/\s.2.2.2.2.2.2.2.1.2.1.length<=30)):=by
 unfold l37_Light
 dsimp only
 by_cases h1:s.2.2.2.2.2.1.length<=30
 ·rw[decide_eq_true (by omega:(s.2.2.2.2.2.1.length:Int)<=30)]
  by_cases h2:s.2.2.2.2.2.2.1.length<=30
  ·rw[decide_eq_true (by omega:(s.2.2.2.2.2.2.1.length:Int)<=30)]
   exact congrArg some (decide_eq_decide.2 ⟨fun h=>⟨h1,h2,by omega⟩,fun h=>by omega⟩)
  ·rw[decide_eq_false (by omega:¬ (s.2.2.2.2.2.2.1.length:Int)<=30)]
   exact congrArg some (decide_eq_false fun h=>h2 h.2.1).symm
 ·rw[decide_eq_false (by omega:¬ (s.2.2.2.2.2.1.length:Int)<=30)]
  exact congrArg some (decide_eq_false fun h=>h1 h.1).symm
theorem stateD_len{p:PlanD} {s:StateD} (hp:PlanOkD p) (h:StateOkD p s):s.2.2.2.2.2.1.length<=16/\s.2.2.2.2.2.2.1.length<=16/\s.2.2.2.2.2.2.2.1.2.1.length<=16:=by
 obtain⟨a0,a1,a2,a3,a4,sp,fz,tr,st,cu,ke,em,o1,o2,o3,sf,se,_⟩:=p
 obtain⟨hh,_,_,_,_,_,hke,_⟩:=hp
 obtain⟨_,_,_,hk,ha⟩:=h
 unfold HeadOk at hh
 dsimp only at hh hke hk ha
 unfold AvgSt at ha
 refine⟨?_,?_,?_⟩
 ·rcases hk with⟨_,h0⟩ | ⟨ho,_,hk,_⟩
  ·omega
  ·rcases hke with⟨h1,_⟩ | ⟨_,_,_,h2⟩
   ·exact(ho h1).elim
   ·have:=hk.2
    omega
 ·have:=ha.1
  split at this<;>omega
 ·have:=ha.2.2
  split at this<;>omega
end Go.Proofs.YtmomjjgokeffnaaGreat.F
