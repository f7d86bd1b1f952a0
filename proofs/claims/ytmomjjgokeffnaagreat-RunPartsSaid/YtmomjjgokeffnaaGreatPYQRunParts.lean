/- A piece's value as a plain number, and the value of pieces at a step: the program's. -/
import Derived.Test.YtmomjjgokeffnaaGreatPYRunParts
set_option linter.unusedVariables false
set_option linter.unusedSimpArgs false
namespace Go.Proofs.YtmomjjgokeffnaaGreat.F
open Go.VX
open Classical
theorem cover(step:Int) (l:List SegD) (hs:SegsOk l) (h0:(nth zSeg l 0).1<=step):∀ j,j<l.length->step<(nth zSeg l j).2.1->∃ i,HasStep l step i
 | 0,hj,h=>⟨0,hj,h0,h⟩
 | j+1,hj,h=>by
  by_cases k:step<(nth zSeg l j).2.1
  ·exact cover step l hs h0 j (by omega) k
  ·have:=(hs (j+1) hj).2 (by omega)
   rw[Nat.add_sub_cancel] at this
   exact⟨j+1,hj,by omega,h⟩
end Go.Proofs.YtmomjjgokeffnaaGreat.F
