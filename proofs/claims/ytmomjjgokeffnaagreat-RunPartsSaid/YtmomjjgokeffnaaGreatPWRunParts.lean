/- Pieces of schedules: which ones there may be. -/
import Derived.Test.YtmomjjgokeffnaaGreatPORunParts
set_option linter.unusedVariables false
set_option linter.unusedSimpArgs false
namespace Go.Proofs.YtmomjjgokeffnaaGreat.F
open Go.VX
open Classical
abbrev SegD:=Int×Int×Int×Int×CurveD×Int×Int×Unit
def SegOk(s:SegD):Prop:=0<=s.1/\s.1<s.2.1/\s.2.1<=1048576/\0<=s.2.2.1/\s.2.2.1<=s.1/\CurveOk s.2.2.2.2.1/\((s.2.2.2.2.2.1=0/\s.2.2.2.2.2.2.1=0/\s.2.1-s.2.2.1<=s.2.2.2.1/\s.2.2.2.1<=1048576)\/(1<=s.2.2.2.2.2.1/\s.2.2.2.2.2.1<=1048576/\1<=s.2.2.2.2.2.2.1/\s.2.2.2.2.2.2.1<=16/\s.2.2.2.1=0))
theorem p_seg(s:SegD):segs_may (s,())=some (decide (SegOk s)):=by
 obtain⟨a,b,d,e,c,f,g,_⟩:=s
 unfold segs_may segs_within SegOk
 dsimp only
 rw[p_curve]
 simp only[bnd_mk,cnd_if,ite_some]
 congr 1
 rw[Bool.eq_iff_iff]
 by_cases hab:0<=a/\a<b/\b<=1048576/\0<=d/\d<=a
 ·have hw:wr .i64 (b-d)=b-d:=wr_id (by omega) (by omega)
  rw[hw]
  by_cases hc:CurveOk c
  ·by_cases hf:f=0
   ·subst hf;simp [hc];omega
   ·simp [hc,hf];omega
  ·simp [hc]
 ·by_cases hc:CurveOk c
  ·simp [hc];omega
  ·simp [hc]
abbrev zSeg:SegD:=(0,0,0,0,(0,0,0,0,()),0,0,())
def SegsOk(l:List SegD):Prop:=∀ i,i<l.length->SegOk (nth zSeg l i)/\(0<i->(nth zSeg l i).1=(nth zSeg l (i-1)).2.1)
theorem p_segs(l:List SegD) (hl:l.length<=9223372036854775807):segs_Check (l,())=some (if SegsOk l/\0<l.length then 0 else 1):=by
 unfold segs_Check
 dsimp only
 rw[all_as (SegsOk l) l.length (fun i=>SegOk (nth zSeg l i)/\(0<i->(nth zSeg l i).1=(nth zSeg l (i-1)).2.1)) _ (.inr 1) (.inl ()) Iff.rfl]
 ·rw[bndS_ite]
  simp only[cnd_if,ite_some]
  by_cases h:SegsOk l<;>by_cases h0:0<l.length
  ·rw[if_pos h,if_neg (by rw[decide_eq_true_eq];omega),if_pos ⟨h,h0⟩]
  ·rw[if_pos h,if_pos (by rw[decide_eq_true_eq];omega),if_neg fun x=>h0 x.2]
  ·rw[if_neg h,if_neg fun x=>h x.1]
  ·rw[if_neg h,if_neg fun x=>h x.1]
 ·intro i hi _
  dsimp only
  rw[lt_true hi,cnd_t,ati_d zSeg hi,bnd_mk,p_seg,bnd_mk,wr_succ hi hl]
  by_cases h0:0<i
  ·rw[ati_pred zSeg h0 hi hl]
   simp only[bnd_mk,cnd_if,ite_some,inrE_mk,inlE]
   have hi0:(i:Int)>0:=by omega
   by_cases h1:SegOk (nth zSeg l i)<;>by_cases h2:(nth zSeg l (i-1)).2.1=(nth zSeg l i).1
   ·simp [h0,h1,h2,hi0]
   ·simp [h0,h1,h2,hi0]
    exact fun e=>h2 (Eq.symm e)
   ·simp [h0,h1,h2,hi0]
   ·simp [h0,h1,h2,hi0]
  ·have hi0:¬ (i:Int)>0:=by omega
   simp only[bnd_mk,cnd_if,ite_some,inrE_mk,inlE]
   by_cases h1:SegOk (nth zSeg l i)
   ·simp [h0,h1,hi0,bnd_mk]
   ·simp [h0,h1,hi0,bnd_mk]
 ·intro _
  dsimp only
  rw[lt_false,cnd_f]
  rfl
end Go.Proofs.YtmomjjgokeffnaaGreat.F
