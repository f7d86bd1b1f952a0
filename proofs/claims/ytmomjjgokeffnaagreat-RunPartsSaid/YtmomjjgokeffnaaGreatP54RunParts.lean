/- Budgets: values of a track, added up. -/
import Derived.Test.YtmomjjgokeffnaaGreatPZRunParts
import Derived.Test.YtmomjjgokeffnaaGreatPYRunParts
set_option linter.unusedVariables false
set_option linter.unusedSectionVars false
set_option linter.unusedSimpArgs false
namespace Go.Proofs.YtmomjjgokeffnaaGreat.F
open Go.VX
open Classical
noncomputable def valF(l:List SegD) (step:Int):Int:=match segs_At (l,step,()) with
 | some r=>r.1
 | none=>0
theorem bounds_q(c:CurveD) (h:CurveOk c):0<=(BoundsS c).1/\(BoundsS c).2.1<=4503599627370496:=by
 unfold BoundsS
 unfold CurveOk at h
 split
 ·dsimp only;omega
 ·split
  ·dsimp only;omega
  ·dsimp only;omega
theorem segs_val(l:List SegD) (step:Int) (hs:SegsOk l) (hl0:0<l.length) (hl:l.length<=4611686018427387903):∃ e,segs_At (l,step,())=some (valF l step,e,())/\0<=valF l step/\valF l step<=4503599627370496:=by
 unfold valF
 rcases p_segat l step hs hl0 hl with⟨i,v,h1,h2,_,_,_,h3,h4⟩ | ⟨_,h2,_⟩
 ·have hb:=bounds_q (nth zSeg l i).2.2.2.2.1 (hs i h1.1).1.2.2.2.2.2.1
  rw[h2]
  refine⟨0,rfl,?_,?_⟩
  ·dsimp only;omega
  ·dsimp only;omega
 ·rw[h2]
  exact⟨8,rfl,by decide,by decide⟩
theorem seg_place(l:List SegD) (hs:SegsOk l):∀ i:Nat,i<l.length->(i:Int)<(nth zSeg l i).2.1
 | 0,h=>by
  have k:=(hs 0 h).1
  unfold SegOk at k
  omega
 | i+1,h=>by
  have k:=seg_place l hs i (by omega)
  have k2:=hs (i+1) h
  have k3:=k2.2 (by omega)
  rw[Nat.add_sub_cancel] at k3
  have k4:=k2.1
  unfold SegOk at k4
  omega
theorem seg_len(l:List SegD) (hs:SegsOk l) (n:Int) (hn:(nth zSeg l (l.length-1)).2.1=n) (h:n<=1000000):l.length<=4611686018427387903:=by
 by_cases h0:l.length=0
 ·omega
 ·have:=seg_place l hs (l.length-1) (by omega)
  omega
section
variable (a0 a1 a2 a3 a4:Int) (sp:List SpanD) (fz:List (List Bool)) (tr:List TrackD) (st:StopD) (cu:CutD) (ke:KeepD) (em:Bool×Int×Unit) (o1 o2 o3 sf se:Int)
end
end Go.Proofs.YtmomjjgokeffnaaGreat.F
