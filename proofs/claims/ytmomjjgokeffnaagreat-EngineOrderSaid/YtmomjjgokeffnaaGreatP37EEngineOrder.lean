/- States and plans as one: which states any plan has. -/
import Derived.Test.YtmomjjgokeffnaaGreatP37DEngineOrder
import Derived.Test.YtmomjjgokeffnaaGreatP28DEngineOrder
set_option linter.unusedVariables false
set_option linter.unusedSimpArgs false
namespace Go.Proofs.YtmomjjgokeffnaaGreat.F
open Go.VX
open Classical
def StateOkD(p:PlanD) (s:StateD):Prop:=StateOk p.1 p.2.1 p.2.2.2.2.1 p.2.2.2.2.2.2.2.2.1 p.2.2.2.2.2.2.2.2.2.1 p.2.2.2.2.2.2.2.2.2.2.1 p.2.2.2.2.2.2.2.2.2.2.2.1 p.2.2.2.2.2.2.2.2.2.2.2.2.1 p.2.2.2.2.2.2.2.2.2.2.2.2.2.1 p.2.2.2.2.2.2.2.2.2.2.2.2.2.2.1 p.2.2.2.2.2.2.2.2.2.2.2.2.2.2.2.1 p.2.2.2.2.2.2.2.2.2.2.2.2.2.2.2.2.1 s
structure InS (s:StateD):Prop where
 step:In64 s.1
 kl:s.2.2.2.2.2.1.length<=9223372036854775807
 el:s.2.2.2.2.2.2.1.length<=9223372036854775807
 sl:s.2.2.2.2.2.2.2.1.2.1.length<=9223372036854775807
 kr:∀ x∈s.2.2.2.2.2.1,In64 x.2.1
theorem p_stateD(p:PlanD) (s:StateD) (w:WfP p) (h:InS s):state_Check (p,s,())=some (if PlanOkD p/\StateOkD p s then 0 else 1):=by
 obtain⟨a0,a1,a2,a3,a4,sp,fz,tr,st,cu,ke,em,o1,o2,o3,sf,se,_⟩:=p
 exact p_state a0 a1 a2 a3 a4 sp fz tr st cu ke em o1 o2 o3 sf se s w.sp w.fz w.tr w.sg h.kl h.kr h.step
theorem light37(s:StateD):l37_Light (s,())=some (decide (s.2.2.2.2.2.1.length<=30/\s.2.2.2.2.2.2.1.length<=30/\s.2.2.2.2.2.2.2.1.2.1.length<=30)):=by
 unfold l37_Light
 dsimp only
 by_cases h1:s.2.2.2.2.2.1.length<=30
 ·rw[decide_eq_true (by omega:(s.2.2.2.2.2.1.length:Int)<=30)]
  by_cases h2:s.2.2.2.2.2.2.1.length<=30
  ·rw[decide_eq_true (by omega:(s.2.2.2.2.2.2.1.length:Int)<=30)]
   exact congrArg some (decide_eq_decide.2 ⟨fun h=>⟨h1,h2,by omega⟩,fun h=>by omega⟩)
  ·rw[decide_eq_false (by omega:¬ (s.2.2.2.2.2.2.1.length:Int)<=30)]
   exact congrArg some (decide_eq_false fun h=>h2 h.2.1).symm
 ·rw[decide_eq_false (by omega:¬ (s.2.2.2.2.2.1.length:Int)<=30)]
  exact congrArg some (decide_eq_false fun h=>h1 h.1).symm
theorem stateD_len{p:PlanD} {s:StateD} (hp:PlanOkD p) (h:StateOkD p s):s.2.2.2.2.2.1.length<=16/\s.2.2.2.2.2.2.1.length<=16/\s.2.2.2.2.2.2.2.1.2.1.length<=16:=by
 obtain⟨a0,a1,a2,a3,a4,sp,fz,tr,st,cu,ke,em,o1,o2,o3,sf,se,_⟩:=p
 obtain⟨hh,_,_,_,_,_,hke,_⟩:=hp
 obtain⟨_,_,_,hk,ha⟩:=h
 unfold HeadOk at hh
 dsimp only at hh hke hk ha
 unfold AvgSt at ha
 refine⟨?_,?_,?_⟩
 ·rcases hk with⟨_,h0⟩ | ⟨ho,_,hk,_⟩
  ·omega
  ·rcases hke with⟨h1,_⟩ | ⟨_,_,_,h2⟩
   ·exact(ho h1).elim
   ·have:=hk.2
    omega
 ·have:=ha.1
  split at this<;>omega
 ·have:=ha.2.2
  split at this<;>omega
end Go.Proofs.YtmomjjgokeffnaaGreat.F
