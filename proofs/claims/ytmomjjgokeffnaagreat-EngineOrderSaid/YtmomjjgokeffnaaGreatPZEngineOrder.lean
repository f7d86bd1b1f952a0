/- Plans of one group whose rates are constants: examples. -/
import Derived.Test.YtmomjjgokeffnaaGreatPXEngineOrder
set_option linter.unusedVariables false
set_option linter.unusedSimpArgs false
namespace Go.Proofs.YtmomjjgokeffnaaGreat.F
open Go.VX
open Classical
abbrev exSeg (n A:Int):SegD:=(0,n,0,n,(1,A,0,0,()),0,0,())
theorem exSeg_ok(n A:Int) (h1:1<=n) (h2:n<=1000000) (h3:0<=A) (h4:A<=4503599627370496):SegOk (exSeg n A):=by
 unfold SegOk CurveOk
 dsimp only
 omega
theorem exSegs_ok(n A:Int) (h1:1<=n) (h2:n<=1000000) (h3:0<=A) (h4:A<=4503599627370496):SegsOk [exSeg n A]:=by
 intro i hi
 have:i=0:=by simp at hi;exact hi
 subst this
 exact⟨exSeg_ok n A h1 h2 h3 h4,fun h=>by omega⟩
theorem exTrack(n A:Int) (h1:1<=n) (h2:n<=1000000) (h3:0<=A) (h4:A<=4503599627370496) (i:Nat) (g p:Int) (hg:g=wr .i64 (Int.tdiv i 3)) (hp:p=Int.tmod i 3):TrackOk n i (g,p,[exSeg n A],()) :=
 ⟨hg,hp,exSegs_ok n A h1 h2 h3 h4,by simp,rfl,rfl⟩
end Go.Proofs.YtmomjjgokeffnaaGreat.F
