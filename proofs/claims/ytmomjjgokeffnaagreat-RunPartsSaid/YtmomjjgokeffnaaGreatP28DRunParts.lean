/- Plans as one: checks. -/
import Derived.Test.YtmomjjgokeffnaaGreatPXRunParts
set_option linter.unusedVariables false
set_option linter.unusedSimpArgs false
namespace Go.Proofs.YtmomjjgokeffnaaGreat.F
open Go.VX
open Classical
def PlanOkD(p:PlanD):Prop:=PlanOk p.1 p.2.1 p.2.2.1 p.2.2.2.1 p.2.2.2.2.1 p.2.2.2.2.2.1 p.2.2.2.2.2.2.1 p.2.2.2.2.2.2.2.1 p.2.2.2.2.2.2.2.2.1 p.2.2.2.2.2.2.2.2.2.1 p.2.2.2.2.2.2.2.2.2.2.1 p.2.2.2.2.2.2.2.2.2.2.2.1 p.2.2.2.2.2.2.2.2.2.2.2.2.1 p.2.2.2.2.2.2.2.2.2.2.2.2.2.1 p.2.2.2.2.2.2.2.2.2.2.2.2.2.2.1 p.2.2.2.2.2.2.2.2.2.2.2.2.2.2.2.1 p.2.2.2.2.2.2.2.2.2.2.2.2.2.2.2.2.1
structure WfP (p:PlanD):Prop where
 sp:p.2.2.2.2.2.1.length<=9223372036854775807
 fz:p.2.2.2.2.2.2.1.length<=9223372036854775807
 tr:p.2.2.2.2.2.2.2.1.length<=9223372036854775807
 sg:∀ t∈p.2.2.2.2.2.2.2.1,t.2.2.1.length<=9223372036854775807
theorem p_planD(p:PlanD) (w:WfP p):plan_Check (p,())=some (if PlanOkD p then 0 else 1):=by
 obtain⟨a0,a1,a2,a3,a4,sp,fz,tr,st,cu,ke,em,o1,o2,o3,sf,se,_⟩:=p
 exact p_plan a0 a1 a2 a3 a4 sp fz tr st cu ke em o1 o2 o3 sf se w.sp w.fz w.tr w.sg
theorem lightD(p:PlanD):∃ q,l28_Light (p,())=some q:=by
 obtain⟨a0,a1,a2,a3,a4,sp,fz,tr,st,cu,ke,em,o1,o2,o3,sf,se,_⟩:=p
 exact light a0 a1 a2 a3 a4 sp fz tr st cu ke em o1 o2 o3 sf se
theorem planD_head{p:PlanD} (h:PlanOkD p):1<=p.1/\p.1<=1000000:=⟨h.1.1,h.1.2.1⟩
theorem planD_tracks{p:PlanD} (h:PlanOkD p):∀ i,i<p.2.2.2.2.2.2.2.1.length->TrackOk p.1 i (nth zTrack p.2.2.2.2.2.2.2.1 i):=h.2.2.2.1.1
theorem planD_ntracks{p:PlanD} (h:PlanOkD p):p.2.2.2.2.2.2.2.1.length<=24:=by
 have h1:=h.2.2.2.1.2
 have h2:HeadOk _ _ _ _ _:=h.1
 unfold HeadOk at h2
 rw[wr_id (by omega) (by omega)] at h1
 omega
end Go.Proofs.YtmomjjgokeffnaaGreat.F
