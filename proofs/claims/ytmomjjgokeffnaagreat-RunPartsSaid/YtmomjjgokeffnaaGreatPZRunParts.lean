/- Plans of one group whose rates are constants: examples. -/
import Derived.Test.YtmomjjgokeffnaaGreatPXRunParts
set_option linter.unusedVariables false
set_option linter.unusedSimpArgs false
namespace Go.Proofs.YtmomjjgokeffnaaGreat.F
open Go.VX
open Classical
abbrev exSeg (n A:Int):SegD:=(0,n,0,n,(1,A,0,0,()),0,0,())
theorem exSeg_ok(n A:Int) (h1:1<=n) (h2:n<=1000000) (h3:0<=A) (h4:A<=4503599627370496):SegOk (exSeg n A):=by
 unfold SegOk CurveOk
 dsimp only
 omega
theorem exSegs_ok(n A:Int) (h1:1<=n) (h2:n<=1000000) (h3:0<=A) (h4:A<=4503599627370496):SegsOk [exSeg n A]:=by
 intro i hi
 have:i=0:=by simp at hi;exact hi
 subst this
 exact⟨exSeg_ok n A h1 h2 h3 h4,fun h=>by omega⟩
theorem exTrack(n A:Int) (h1:1<=n) (h2:n<=1000000) (h3:0<=A) (h4:A<=4503599627370496) (i:Nat) (g p:Int) (hg:g=wr .i64 (Int.tdiv i 3)) (hp:p=Int.tmod i 3):TrackOk n i (g,p,[exSeg n A],()) :=
 ⟨hg,hp,exSegs_ok n A h1 h2 h3 h4,by simp,rfl,rfl⟩
theorem exPlan(n A a2 a4:Int) (ke:KeepD) (o3:Int) (h1:1<=n) (h2:n<=1000000) (h3:0<=A) (h4:A<=4503599627370496) (h5:0<=a2) (h6:a2<=4) (h7:0<=a4) (h8:a4<=n) (hk:KeepOk a2 a4 o3 ke) :
  PlanOk n 0 a2 1 a4 [(0,n,())] [[false]] [(0,0,[exSeg n A],()),(0,1,[exSeg n A],()),(0,2,[exSeg n A],())] (false,[],false,0,0,false,()) (false,[],false,0,0,0,0,0,()) ke (false,0,()) (-1) (-1) o3 0 0:=by
 refine⟨by unfold HeadOk;omega,⟨fun i hi=>?_,rfl,by simp⟩,⟨fun i hi=>?_,rfl⟩,⟨fun i hi=>?_,rfl⟩,.inl ⟨rfl,rfl⟩,.inl ⟨rfl,rfl⟩,hk,?_⟩
 ·have:i=0:=by simp at hi;exact hi
  subst this
  exact⟨by show(0:Int)<n;omega,rfl⟩
 ·have:i=0:=by simp at hi;exact hi
  subst this
  rfl
 ·have:i=0\/i=1\/i=2:=by simp at hi;omega
  rcases this with rfl | rfl | rfl
  ·exact exTrack n A h1 h2 h3 h4 0 0 0 rfl rfl
  ·exact exTrack n A h1 h2 h3 h4 1 0 1 rfl rfl
  ·exact exTrack n A h1 h2 h3 h4 2 0 2 rfl rfl
 ·unfold AvgOk
  simp [eqT]
  try omega
theorem keep_none(a2 a4:Int):KeepOk a2 a4 (-1) (false,[],false,0,()):=.inl ⟨rfl,rfl⟩
end Go.Proofs.YtmomjjgokeffnaaGreat.F
