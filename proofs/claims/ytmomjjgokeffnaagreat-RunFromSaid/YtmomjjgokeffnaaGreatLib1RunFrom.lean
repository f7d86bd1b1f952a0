/- What the law RunFrom needs of plain lemmas: part 1. -/
import Derived.Test.YtmomjjgokeffnaaGreatFRunFrom
import Derived.Test.YtmomjjgokeffnaaGreatVx3
set_option linter.unusedVariables false
set_option linter.unusedSimpArgs false
set_option linter.unusedSectionVars false
namespace Go.Proofs.YtmomjjgokeffnaaGreat.F
theorem dT {p:Prop} [inst:Decidable p] (h:p):decide p=true:=decide_eq_true h
theorem dF {p:Prop} [inst:Decidable p] (h:¬p):decide p=false:=decide_eq_false h
end Go.Proofs.YtmomjjgokeffnaaGreat.F
namespace Go.Proofs.YtmomjjgokeffnaaGreat.F
open Go.VX
theorem wru_id{x:Int} (h1:0<=x) (h2:x<18446744073709551616):wr .u64 x=x:=by
 simp only[wr,IntKind.wrap,IntKind.signed,IntKind.bits]
 simp at *;omega
theorem wru_mod(x:Int):wr .u64 x=x % 18446744073709551616:=by
 simp only[wr,IntKind.wrap,IntKind.signed,IntKind.bits]
 simp
def Abs(x:Int):Int:=if x<0 then -x else x
theorem loopP_step{σ ρ:Type} {f:σ->Option (σ ⊕ ρ)} {s s':σ} (h:f s=some (.inl s')):loopP f s=loopP f s':=by
 cases hr:loopP f s' with
 | some r =>
  obtain⟨n,hn⟩:∃ n,loopN f n s'=some r:=by
   unfold loopP at hr
   split at hr
   ·exact⟨_,hr⟩
   ·cases hr
  exact loopP_of (n:=n+1) (by simp only[loopN,h,hn])
 | none =>
  cases hs:loopP f s with
  | none=>rfl
  | some r =>
   obtain⟨n,hn⟩:∃ n,loopN f n s=some r:=by
    unfold loopP at hs
    split at hs
    ·exact⟨_,hs⟩
    ·cases hs
   cases n with
   | zero=>cases hn
   | succ n =>
    simp only[loopN,h] at hn
    rw[loopP_of hn] at hr
    cases hr
theorem loopP_done{σ ρ:Type} {f:σ->Option (σ ⊕ ρ)} {s:σ} {r:ρ} (h:f s=some (.inr r)):loopP f s=some r :=
 loopP_of (n:=1) (by simp only[loopN,h])
theorem inR_ok{n i:Nat} (h:i<n):inR n (i:Int)=some (i:Int):=by
 simp only[inR]
 rw[if_pos (by omega)]
def Rd(n d:Int):Int:=if 2*(n % d)>d\/(2*(n % d)=d/\n / d % 2=1) then n / d+1 else n / d
theorem rd_le(n d:Int) (h:0<d) (hn:0<=n):0<=Rd n d/\Rd n d<=n / d+1:=by
 have:=Int.ediv_nonneg hn (Int.le_of_lt h)
 unfold Rd
 split<;>omega
def Sg(m:Int) (neg:Bool):Int×Int×Unit:=if m>9223372036854775808\/(m=9223372036854775808/\neg=false) then(0,4,()) else(if neg=true then -m else m,0,())
def MulS(x y:Int):Int×Int×Unit:=Sg (Rd (Abs x*Abs y) 4294967296) (!decide (decide (x<0)=decide (y<0)))
theorem and_low{x:Int} (h0:0<=x) (h1:x<18446744073709551616):bitI .and .u64 x 4294967295=x % 4294967296:=by
 have e:(BitVec.ofInt 64 x &&& BitVec.ofInt 64 4294967295).toNat=(x % 4294967296).toNat:=by
  rw[BitVec.toNat_and,BitVec.toNat_ofInt,BitVec.toNat_ofInt]
  rw[show((4294967295:Int) % ((2 ^ 64:Nat):Int)).toNat=2 ^ 32-1 from rfl,Nat.and_two_pow_sub_one_eq_mod]
  rw[show((2 ^ 64:Nat):Int)=18446744073709551616 from rfl,show 2 ^ 32=4294967296 from rfl]
  omega
 show wr .u64 ((BitVec.ofInt 64 x &&& BitVec.ofInt 64 4294967295).toNat:Int)=_
 rw[e,wru_id (by omega) (by omega)]
 omega
theorem or_add{x y:Int} (k:Nat) (hk:k<=64) (h0:0<=x) (h1:x*2 ^ k+y<18446744073709551616) (h2:0<=y) (h3:y<2 ^ k):bitI .or .u64 (x*2 ^ k) y=x*2 ^ k+y:=by
 have hP:(0:Int)<2 ^ k:=Int.pow_pos (by omega)
 have hx:0<=x*2 ^ k:=Int.mul_nonneg h0 (by omega)
 have e:(BitVec.ofInt 64 (x*2 ^ k) ||| BitVec.ofInt 64 y).toNat=(x*2 ^ k+y).toNat:=by
  rw[BitVec.toNat_or,BitVec.toNat_ofInt,BitVec.toNat_ofInt,show((2 ^ 64:Nat):Int)=18446744073709551616 from rfl]
  rw[Int.emod_eq_of_lt hx (by omega),Int.emod_eq_of_lt h2 (by omega)]
  have hy:y.toNat<2 ^ k:=by
   have:((2 ^ k:Nat):Int)=2 ^ k:=by simp
   omega
  have hxn:(x*2 ^ k).toNat=2 ^ k*x.toNat:=by
   rw[Int.toNat_mul h0 (by omega),Nat.mul_comm,Int.toNat_pow_of_nonneg (by omega)]
   rfl
  rw[hxn,← Nat.two_pow_add_eq_or_of_lt hy,← hxn]
  omega
 show wr .u64 ((BitVec.ofInt 64 (x*2 ^ k) ||| BitVec.ofInt 64 y).toNat:Int)=_
 rw[e,wru_id (by omega) (by omega)]
 omega
theorem fdiv_pos{x:Int} (n:Int) (h:0<=n):Int.fdiv x n=x / n:=Int.fdiv_eq_ediv_of_nonneg x h
theorem abs_b(x:Int) (h0:-9223372036854775808<=x) (h1:x<=9223372036854775807):0<=Abs x/\Abs x<=9223372036854775808:=by
 unfold Abs;split<;>omega
def NearS(n hi d:Int):Int×Int×Unit:=if d=0 then(0,5,()) else if d<=hi then(0,4,()) else if Rd n d=18446744073709551616 then(0,4,()) else(Rd n d,0,())
theorem shl_u{x:Int} {s:Nat} (hs:s<=64):shlI .u64 x (wr .u64 (s:Int))=some (wr .u64 (x*2 ^ s)):=by
 rw[wru_id (by omega) (by omega)]
 simp only[shlI]
 rw[if_neg (by omega),Int.toNat_natCast]
 congr 3
 rw[show min s (IntKind.bits .u64)=s from Nat.min_eq_left hs]
theorem shr_u{x:Int} {s:Nat} (hs:s<=64) (h0:0<=x):shrI .u64 x (wr .u64 (s:Int))=some (x / 2 ^ s):=by
 rw[wru_id (by omega) (by omega)]
 simp only[shrI]
 rw[if_neg (by omega),Int.toNat_natCast,show min s (IntKind.bits .u64)=s from Nat.min_eq_left hs,fdiv_pos _ (Int.le_of_lt (Int.pow_pos (by omega)))]
theorem quo_u{x y:Int} (h0:0<=x) (h1:x<18446744073709551616) (hy:0<y):quoI .u64 x y=some (x / y):=by
 simp only[quoI]
 rw[if_neg (by omega),Int.tdiv_eq_ediv_of_nonneg h0]
 have:x / y<=x:=Int.ediv_le_self _ h0
 have:=Int.ediv_nonneg h0 (by omega:0<=y)
 show some (wr .u64 (x / y))=_
 rw[wru_id (by omega) (by omega)]
theorem rem_u{x y:Int} (h0:0<=x) (hy:0<y):remI x y=some (x % y):=by
 simp only[remI]
 rw[if_neg (by omega),Int.tmod_eq_emod_of_nonneg h0]
end Go.Proofs.YtmomjjgokeffnaaGreat.F
namespace Go.Proofs.YtmomjjgokeffnaaGreat.F
open Go.VX
open Classical
abbrev CurveD:=Int×Int×Int×Int×Unit
def CurveOk(c:CurveD):Prop:=0<=c.2.1/\c.2.1<=4503599627370496/\0<=c.2.2.1/\c.2.2.1<=4503599627370496/\((c.1=1/\c.2.2.1=0/\c.2.2.2.1=0)\/((c.1=2\/c.1=5)/\c.2.2.2.1=0)\/(c.1=3/\1<=c.2.2.2.1/\c.2.2.2.1<=16)\/(c.1=4/\c.2.2.1<=c.2.1/\0<=c.2.2.2.1/\c.2.2.2.1<=4294967296))
theorem p_curve(c:CurveD):curve_Check (c,())=some (if CurveOk c then 0 else 1):=by
 obtain⟨a,b,d,e,_⟩:=c
 unfold curve_Check curve_bent curve_within CurveOk
 simp only[bnd_mk,cnd_if,ite_some]
 congr 1
 apply if_swap
 by_cases h1:a=1
 ·subst h1;simp;omega
 by_cases h2:a=2
 ·subst h2;simp;omega
 by_cases h3:a=3
 ·subst h3;simp;omega
 by_cases h4:a=4
 ·subst h4;simp;omega
 by_cases h5:a=5
 ·subst h5;simp;omega
 simp [h1,h2,h3,h4,h5]
theorem r_curve(c:CurveD):q09_May (c,())=some (decide (CurveOk c)):=by
 obtain⟨a,b,d,e,_⟩:=c
 unfold q09_May CurveOk
 simp only[bnd_mk,cnd_if,ite_some]
 congr 1
 rw[Bool.eq_iff_iff]
 by_cases h1:a=1
 ·subst h1;simp;omega
 by_cases h2:a=2
 ·subst h2;simp;omega
 by_cases h3:a=3
 ·subst h3;simp;omega
 by_cases h4:a=4
 ·subst h4;simp;omega
 by_cases h5:a=5
 ·subst h5;simp;omega
 simp [h1,h2,h3,h4,h5]
end Go.Proofs.YtmomjjgokeffnaaGreat.F
namespace Go.Proofs.YtmomjjgokeffnaaGreat.F
open Go.VX
open Classical
abbrev SegD:=Int×Int×Int×Int×CurveD×Int×Int×Unit
def SegOk(s:SegD):Prop:=0<=s.1/\s.1<s.2.1/\s.2.1<=1048576/\0<=s.2.2.1/\s.2.2.1<=s.1/\CurveOk s.2.2.2.2.1/\((s.2.2.2.2.2.1=0/\s.2.2.2.2.2.2.1=0/\s.2.1-s.2.2.1<=s.2.2.2.1/\s.2.2.2.1<=1048576)\/(1<=s.2.2.2.2.2.1/\s.2.2.2.2.2.1<=1048576/\1<=s.2.2.2.2.2.2.1/\s.2.2.2.2.2.2.1<=16/\s.2.2.2.1=0))
theorem p_seg(s:SegD):segs_may (s,())=some (decide (SegOk s)):=by
 obtain⟨a,b,d,e,c,f,g,_⟩:=s
 unfold segs_may segs_within SegOk
 dsimp only
 rw[p_curve]
 simp only[bnd_mk,cnd_if,ite_some]
 congr 1
 rw[Bool.eq_iff_iff]
 by_cases hab:0<=a/\a<b/\b<=1048576/\0<=d/\d<=a
 ·have hw:wr .i64 (b-d)=b-d:=wr_id (by omega) (by omega)
  rw[hw]
  by_cases hc:CurveOk c
  ·by_cases hf:f=0
   ·subst hf;simp [hc];omega
   ·simp [hc,hf];omega
  ·simp [hc]
 ·by_cases hc:CurveOk c
  ·simp [hc];omega
  ·simp [hc]
theorem r_seg(s:SegD):q24_One (s,())=some (decide (SegOk s)):=by
 obtain⟨a,b,d,e,c,f,g,_⟩:=s
 unfold q24_One SegOk
 dsimp only
 rw[r_curve]
 simp only[bnd_mk,cnd_if,ite_some]
 congr 1
 rw[Bool.eq_iff_iff]
 by_cases hab:0<=a/\a<b/\b<=1048576/\0<=d/\d<=a
 ·have hw:wr .i64 (b-d)=b-d:=wr_id (by omega) (by omega)
  rw[hw]
  by_cases hc:CurveOk c
  ·by_cases hf:f=0
   ·subst hf;simp [hc];omega
   ·simp [hc,hf];omega
  ·simp [hc]
 ·by_cases hc:CurveOk c
  ·simp [hc];omega
  ·simp [hc]
abbrev zSeg:SegD:=(0,0,0,0,(0,0,0,0,()),0,0,())
def SegsOk(l:List SegD):Prop:=∀ i,i<l.length->SegOk (nth zSeg l i)/\(0<i->(nth zSeg l i).1=(nth zSeg l (i-1)).2.1)
theorem p_segs(l:List SegD) (hl:l.length<=9223372036854775807):segs_Check (l,())=some (if SegsOk l/\0<l.length then 0 else 1):=by
 unfold segs_Check
 dsimp only
 rw[all_as (SegsOk l) l.length (fun i=>SegOk (nth zSeg l i)/\(0<i->(nth zSeg l i).1=(nth zSeg l (i-1)).2.1)) _ (.inr 1) (.inl ()) Iff.rfl]
 ·rw[bndS_ite]
  simp only[cnd_if,ite_some]
  by_cases h:SegsOk l<;>by_cases h0:0<l.length
  ·rw[if_pos h,if_neg (by rw[decide_eq_true_eq];omega),if_pos ⟨h,h0⟩]
  ·rw[if_pos h,if_pos (by rw[decide_eq_true_eq];omega),if_neg fun x=>h0 x.2]
  ·rw[if_neg h,if_neg fun x=>h x.1]
  ·rw[if_neg h,if_neg fun x=>h x.1]
 ·intro i hi _
  dsimp only
  rw[lt_true hi,cnd_t,ati_d zSeg hi,bnd_mk,p_seg,bnd_mk,wr_succ hi hl]
  by_cases h0:0<i
  ·rw[ati_pred zSeg h0 hi hl]
   simp only[bnd_mk,cnd_if,ite_some,inrE_mk,inlE]
   have hi0:(i:Int)>0:=by omega
   by_cases h1:SegOk (nth zSeg l i)<;>by_cases h2:(nth zSeg l (i-1)).2.1=(nth zSeg l i).1
   ·simp [h0,h1,h2,hi0]
   ·simp [h0,h1,h2,hi0]
    exact fun e=>h2 (Eq.symm e)
   ·simp [h0,h1,h2,hi0]
   ·simp [h0,h1,h2,hi0]
  ·have hi0:¬ (i:Int)>0:=by omega
   simp only[bnd_mk,cnd_if,ite_some,inrE_mk,inlE]
   by_cases h1:SegOk (nth zSeg l i)
   ·simp [h0,h1,hi0,bnd_mk]
   ·simp [h0,h1,hi0,bnd_mk]
 ·intro _
  dsimp only
  rw[lt_false,cnd_f]
  rfl
theorem r_segs(l:List SegD) (hl:l.length<=9223372036854775807):q24_May (l,())=some (decide (SegsOk l/\0<l.length)):=by
 unfold q24_May
 dsimp only
 rw[all_as (SegsOk l) l.length (fun i=>SegOk (nth zSeg l i)/\(0<i->(nth zSeg l i).1=(nth zSeg l (i-1)).2.1)) _ (.inr false) (.inl ()) Iff.rfl]
 ·rw[bndS_ite]
  by_cases h:SegsOk l
  ·rw[if_pos h]
   simp [h]
  ·rw[if_neg h]
   simp [h]
 ·intro i hi _
  dsimp only
  rw[lt_true hi,cnd_t,ati_d zSeg hi,bnd_mk,r_seg,bnd_mk,wr_succ hi hl]
  by_cases h0:0<i
  ·rw[ati_pred zSeg h0 hi hl]
   simp only[bnd_mk,cnd_if,ite_some,inrE_mk,inlE]
   have hi0:(i:Int)>0:=by omega
   by_cases h1:SegOk (nth zSeg l i)<;>by_cases h2:(nth zSeg l i).1=(nth zSeg l (i-1)).2.1
   all_goals simp [h0,h1,h2,hi0]
  ·have hi0:¬ (i:Int)>0:=by omega
   simp only[bnd_mk,cnd_if,ite_some,inrE_mk,inlE]
   by_cases h1:SegOk (nth zSeg l i)
   ·simp [h0,h1,hi0,bnd_mk]
   ·simp [h0,h1,hi0,bnd_mk]
 ·intro _
  dsimp only
  rw[lt_false,cnd_f]
  rfl
end Go.Proofs.YtmomjjgokeffnaaGreat.F
namespace Go.Proofs.YtmomjjgokeffnaaGreat.F
open Go.VX
open Classical
abbrev TrackD:=Int×Int×List SegD×Unit
abbrev SpanD:=Int×Int×Unit
abbrev zSpan:SpanD:=(0,0,())
def SpanOk(l:List SpanD) (i:Nat):Prop:=(nth zSpan l i).1<(nth zSpan l i).2.1/\(nth zSpan l i).1=if i=0 then 0 else(nth zSpan l (i-1)).2.1
theorem p_spans(p) (l:List SpanD) (e:p.2.2.2.2.2.1=l) (hl:l.length<=9223372036854775807):plan_spans (p,())=some (decide ((∀ i,i<l.length->SpanOk l i)/\(if l.length=0 then 0 else(nth zSpan l (l.length-1)).2.1)=p.1/\l.length<=16)):=by
 subst e
 unfold plan_spans
 dsimp only
 obtain⟨r,e,h⟩:=loop_rule (ρ:=(Int×Unit) ⊕ Bool) (f:=(fun(s2:Int×Int×Unit)=>cnd (decide (s2.2.1<(p.2.2.2.2.2.1.length:Int))) (bnd (ati p.2.2.2.2.2.1 s2.2.1) fun v3=>bnd (cnd (!(!decide (v3.1=s2.1))) (some (decide (v3.2.1<=s2.1))) (some true)) fun j4=>cnd j4 (inrE (inrE (some false))) (inlE (v3.2.1,wr .i64 (s2.2.1+1),()))) (inrE (inlE (s2.1,())))))
  (fun s=>0<=s.2.1/\s.2.1<=p.2.2.2.2.2.1.length/\s.1=(if s.2.1.toNat=0 then 0 else(nth zSpan p.2.2.2.2.2.1 (s.2.1.toNat-1)).2.1)/\∀ i,i<s.2.1.toNat->SpanOk p.2.2.2.2.2.1 i) (fun s=>p.2.2.2.2.2.1.length-s.2.1.toNat)
  (fun r=>(r=.inl ((if p.2.2.2.2.2.1.length=0 then 0 else(nth zSpan p.2.2.2.2.2.1 (p.2.2.2.2.2.1.length-1)).2.1),())/\∀ i,i<p.2.2.2.2.2.1.length->SpanOk p.2.2.2.2.2.1 i)\/(r=.inr false/\¬ ∀ i,i<p.2.2.2.2.2.1.length->SpanOk p.2.2.2.2.2.1 i)) (fun s ⟨i0,i1,i2,i3⟩=>by
   obtain⟨at',i,_⟩:=s
   dsimp only at *
   obtain⟨k,rfl⟩:∃ k:Nat,i=k:=⟨i.toNat,by omega⟩
   rw[Int.toNat_natCast] at i2
   by_cases hk:k<p.2.2.2.2.2.1.length
   ·rw[lt_true hk,cnd_t,ati_d zSpan hk,bnd_mk,wr_succ hk hl]
    by_cases ho:SpanOk p.2.2.2.2.2.1 k
    ·left
     have ho':=ho
     unfold SpanOk at ho'
     rw[← i2] at ho'
     refine⟨((nth zSpan p.2.2.2.2.2.1 k).2.1,(k:Int)+1,()),?_,⟨by dsimp only;omega,by dsimp only;omega,?_,fun j hj=>?_⟩,by dsimp only;omega⟩
     ·rw[dT ho'.2,dF (by omega)];rfl
     ·dsimp only
      rw[if_neg (by omega)]
      congr 3
     ·dsimp only at hj
      by_cases hjk:j=k
      ·exact hjk ▸ ho
      ·exact i3 j (by omega)
    ·right
     refine⟨.inr false,?_,.inr ⟨rfl,fun h=>ho (h k hk)⟩⟩
     have ho':=ho
     unfold SpanOk at ho'
     rw[← i2] at ho'
     by_cases h1:(nth zSpan p.2.2.2.2.2.1 k).1=at'
     ·rw[dT h1,dT (by omega)];rfl
     ·rw[dF h1];rfl
   ·right
    have hkn:k=p.2.2.2.2.2.1.length:=by omega
    subst hkn
    rw[lt_false,cnd_f]
    refine⟨_,rfl,.inl ⟨?_,fun j hj=>i3 j (by omega)⟩⟩
    rw[← i2]) (0,0,()) ⟨Int.le_refl _,by dsimp only;omega,rfl,fun j hj=>by simp at hj⟩
 rw[e]
 rcases h with⟨rfl,h⟩ | ⟨rfl,h⟩
 ·rw[bndS_l]
  simp only[bnd_mk,cnd_if,ite_some]
  congr 1
  generalize (if p.2.2.2.2.2.1.length=0 then(0:Int) else(nth zSpan p.2.2.2.2.2.1 (p.2.2.2.2.2.1.length-1)).2.1)=a
  rw[Bool.eq_iff_iff]
  simp only[decide_eq_true_eq,Bool.if_false_right,Bool.and_eq_true]
  constructor
  ·intro x
   exact⟨h,x.1,by omega⟩
  ·intro x
   exact⟨x.2.1,by omega⟩
 ·rw[bndS_r]
  simp [h]
theorem p_frozen(p) (l:List (List Bool)) (e:p.2.2.2.2.2.2.1=l) (hl:l.length<=9223372036854775807):plan_frozen (p,())=some (decide ((∀ i,i<l.length->((nth [] l i).length:Int)=p.2.2.2.1)/\l.length=p.2.2.2.2.2.1.length)):=by
 subst e
 unfold plan_frozen
 dsimp only
 rw[all_as (∀ i,i<p.2.2.2.2.2.2.1.length->((nth [] p.2.2.2.2.2.2.1 i).length:Int)=p.2.2.2.1) p.2.2.2.2.2.2.1.length (fun i=>((nth [] p.2.2.2.2.2.2.1 i).length:Int)=p.2.2.2.1) _ (.inr false) (.inl ()) Iff.rfl]
 ·rw[bndS_ite]
  simp only[ite_some]
  congr 1
  refine ite_dec ?_
  omega
 ·intro i hi _
  dsimp only
  rw[lt_true hi,cnd_t,ati_d [] hi,bnd_mk,wr_succ hi hl]
  by_cases h:((nth [] p.2.2.2.2.2.2.1 i).length:Int)=p.2.2.2.1
  ·simp [h,cnd_if,inlE]
  ·simp [h,cnd_if,inrE_mk]
 ·intro _
  dsimp only
  rw[lt_false,cnd_f]
  rfl
abbrev zTrack:TrackD:=(0,0,[],())
def TrackOk(steps:Int) (i:Nat) (t:TrackD):Prop:=t.1=wr .i64 (Int.tdiv i 3)/\t.2.1=Int.tmod i 3/\SegsOk t.2.2.1/\0<t.2.2.1.length/\(nth zSeg t.2.2.1 0).1=0/\(nth zSeg t.2.2.1 (t.2.2.1.length-1)).2.1=steps
theorem r_whole(l:List SegD) (steps:Int) (hl:l.length<=9223372036854775807):q28_whole (l,steps,())=some (decide (SegsOk l/\0<l.length/\(nth zSeg l 0).1=0/\(nth zSeg l (l.length-1)).2.1=steps)):=by
 unfold q28_whole
 dsimp only
 rw[r_segs l hl,bnd_mk]
 by_cases h:SegsOk l
 ·by_cases h0:0<l.length
  ·rw[ati_0 zSeg h0,ati_last zSeg h0 hl]
   simp only[bnd_mk,cnd_if,ite_some]
   congr 1
   rw[Bool.eq_iff_iff]
   simp [h,h0]
  ·simp [h,h0,cnd_if,bnd_mk]
 ·simp [h,cnd_if,bnd_mk]
theorem p_tracks(p) (l:List TrackD) (e:p.2.2.2.2.2.2.2.1=l) (hl:l.length<=9223372036854775807) (hs:∀ t∈l,t.2.2.1.length<=9223372036854775807):plan_tracks (p,())=some (decide ((∀ i,i<l.length->TrackOk p.1 i (nth zTrack l i))/\(l.length:Int)=wr .i64 (p.2.2.2.1*3))):=by
 subst e
 unfold plan_tracks
 dsimp only
 rw[all_as (∀ i,i<p.2.2.2.2.2.2.2.1.length->TrackOk p.1 i (nth zTrack p.2.2.2.2.2.2.2.1 i)) p.2.2.2.2.2.2.2.1.length (fun i=>TrackOk p.1 i (nth zTrack p.2.2.2.2.2.2.2.1 i)) _ (.inr false) (.inl ()) Iff.rfl]
 ·rw[bndS_ite]
  simp only[ite_some]
  congr 1
  refine ite_dec Iff.rfl
 ·intro i hi _
  dsimp only
  rw[lt_true hi,cnd_t,ati_d zTrack hi,bnd_mk,wr_succ hi hl]
  have hm:nth zTrack p.2.2.2.2.2.2.2.1 i∈p.2.2.2.2.2.2.2.1:=nth_mem hi
  have hls:=hs _ hm
  rw[p_segs _ hls]
  unfold TrackOk
  generalize nth zTrack p.2.2.2.2.2.2.2.1 i=t at *
  generalize wr .i64 (Int.tdiv i 3)=u
  generalize Int.tmod (i:Int) 3=v
  by_cases h1:t.1=u
  ·by_cases h2:t.2.1=v
   ·by_cases h3:SegsOk t.2.2.1
    ·by_cases h4:0<t.2.2.1.length
     ·rw[ati_0 zSeg h4,ati_last zSeg h4 hls]
      by_cases h5:(nth zSeg t.2.2.1 0).1=0
      ·by_cases h6:(nth zSeg t.2.2.1 (t.2.2.1.length-1)).2.1=p.1
       ·simp [h1,h2,h3,h4,h5,h6,cnd_if,bnd_mk,inlE,inrE_mk]
       ·simp [h1,h2,h3,h4,h5,h6,cnd_if,bnd_mk,inlE,inrE_mk]
      ·simp [h1,h2,h3,h4,h5,cnd_if,bnd_mk,inlE,inrE_mk]
     ·simp [h1,h2,h3,h4,cnd_if,bnd_mk,inlE,inrE_mk]
    ·simp [h1,h2,h3,cnd_if,bnd_mk,inlE,inrE_mk]
   ·simp [h1,h2,cnd_if,bnd_mk,inlE,inrE_mk]
  ·simp [h1,cnd_if,bnd_mk,inlE,inrE_mk]
 ·intro _
  dsimp only
  rw[lt_false,cnd_f]
  rfl
theorem dec_wr(m:Int) (h0:0<=m) (h:m<=4):wr .i64 (m-1)=m-1:=wr_id (by omega) (by omega)
abbrev PlanD:=Int×Int×Int×Int×Int×List SpanD×List (List Bool)×List TrackD×(Bool×List Int×Bool×Int×Int×Bool×Unit)×(Bool×List Int×Bool×Int×Int×Int×Int×Int×Unit)×(Bool×List Int×Bool×Int×Unit)×(Bool×Int×Unit)×Int×Int×Int×Int×Int×Unit
abbrev tStop:Ty:=.pr .bool (.pr .str (.pr .bool (.pr (.int .i64) (.pr (.int .i64) (.pr .bool .unit)))))
abbrev tCut:Ty:=.pr .bool (.pr .str (.pr .bool (.pr (.int .i64) (.pr (.int .i64) (.pr (.int .i64) (.pr (.int .i64) (.pr (.int .i64) .unit)))))))
abbrev tKeep:Ty:=.pr .bool (.pr .str (.pr .bool (.pr (.int .i64) .unit)))
abbrev StopD:=Bool×List Int×Bool×Int×Int×Bool×Unit
abbrev CutD:=Bool×List Int×Bool×Int×Int×Int×Int×Int×Unit
abbrev KeepD:=Bool×List Int×Bool×Int×Unit
def SeenOk(metrics eval on:Int) (metric:List Int) (b:Bool):Prop:=0<=on/\on<metrics/\metric=[]/\b=true/\0<eval
def StopOk(a2 a4 on:Int) (s:StopD):Prop:=(on=-1/\eqT tStop s (false,[],false,0,0,false,())=true)\/(on≠-1/\SeenOk a2 a4 on s.2.1 s.1/\1<=s.2.2.2.1/\s.2.2.2.1<=1099511627776/\0<=s.2.2.2.2.1/\s.2.2.2.2.1<=4503599627370496)
def CutOk(a2 a4 on:Int) (s:CutD):Prop:=(on=-1/\eqT tCut s (false,[],false,0,0,0,0,0,())=true)\/(on≠-1/\SeenOk a2 a4 on s.2.1 s.1/\1<=s.2.2.2.2.1/\s.2.2.2.2.1<=1099511627776/\0<=s.2.2.2.2.2.2.2.1/\s.2.2.2.2.2.2.2.1<=4503599627370496/\0<=s.2.2.2.2.2.2.1/\s.2.2.2.2.2.2.1<=4503599627370496/\0<=s.2.2.2.1/\s.2.2.2.1<=4294967295/\0<=s.2.2.2.2.2.1/\s.2.2.2.2.2.1<=1099511627776)
def KeepOk(a2 a4 on:Int) (s:KeepD):Prop:=(on=-1/\eqT tKeep s (false,[],false,0,())=true)\/(on≠-1/\SeenOk a2 a4 on s.2.1 s.1/\1<=s.2.2.2.1/\s.2.2.2.1<=16)
def AvgOk(a0 sf se:Int) (em:Bool×Int×Unit):Prop:=(eqT (.pr .bool (.pr (.int .i64) .unit)) em (false,0,())=true\/(em.1=true/\0<=em.2.1/\em.2.1<=4294967296))/\((se=0/\sf=0)\/(1<=se/\se<=1099511627776/\0<=sf/\sf<=a0))
section
variable (a0 a1 a2 a3 a4:Int) (sp:List SpanD) (fz:List (List Bool)) (tr:List TrackD) (st:StopD) (cu:CutD) (ke:KeepD) (em:Bool×Int×Unit) (o1 o2 o3 sf se:Int)
theorem p_stop(h0:0<=a2) (h:a2<=4):plan_stop ((a0,a1,a2,a3,a4,sp,fz,tr,st,cu,ke,em,o1,o2,o3,sf,se,()),())=some (decide (StopOk a2 a4 o1 st)):=by
 obtain⟨b1,m1,c1,n1,n2,c2,_⟩:=st
 unfold plan_stop plan_seen plan_count plan_value plan_within StopOk SeenOk
 dsimp only
 rw[dec_wr _ h0 h]
 simp only[bnd_mk,cnd_if,ite_some]
 congr 1
 rw[Bool.eq_iff_iff]
 generalize eqT _ _ _=b
 by_cases h1:o1=-1
 ·simp [h1]
 ·by_cases h2:m1=[]
  ·cases b1<;>simp [h1,h2]
   omega
  ·simp [h1,h2]
theorem p_cut(h0:0<=a2) (h:a2<=4):plan_cut ((a0,a1,a2,a3,a4,sp,fz,tr,st,cu,ke,em,o1,o2,o3,sf,se,()),())=some (decide (CutOk a2 a4 o2 cu)):=by
 obtain⟨b1,m1,c1,n1,n2,n3,n4,n5,_⟩:=cu
 unfold plan_cut plan_seen plan_count plan_value plan_within CutOk SeenOk
 dsimp only
 rw[dec_wr _ h0 h]
 simp only[bnd_mk,cnd_if,ite_some]
 congr 1
 rw[Bool.eq_iff_iff]
 generalize eqT _ _ _=b
 by_cases h1:o2=-1
 ·simp [h1]
 ·by_cases h2:m1=[]
  ·cases b1<;>simp [h1,h2]
   omega
  ·simp [h1,h2]
theorem p_keep(h0:0<=a2) (h:a2<=4):plan_keep ((a0,a1,a2,a3,a4,sp,fz,tr,st,cu,ke,em,o1,o2,o3,sf,se,()),())=some (decide (KeepOk a2 a4 o3 ke)):=by
 obtain⟨b1,m1,c1,n1,_⟩:=ke
 unfold plan_keep plan_seen plan_within KeepOk SeenOk
 dsimp only
 rw[dec_wr _ h0 h]
 simp only[bnd_mk,cnd_if,ite_some]
 congr 1
 rw[Bool.eq_iff_iff]
 generalize eqT _ _ _=b
 by_cases h1:o3=-1
 ·simp [h1]
 ·by_cases h2:m1=[]
  ·cases b1<;>simp [h1,h2]
   omega
  ·simp [h1,h2]
theorem p_avg:plan_averages ((a0,a1,a2,a3,a4,sp,fz,tr,st,cu,ke,em,o1,o2,o3,sf,se,()),())=some (decide (AvgOk a0 sf se em)):=by
 obtain⟨b1,n1,_⟩:=em
 unfold plan_averages plan_count plan_within AvgOk
 dsimp only
 simp only[bnd_mk,cnd_if,ite_some]
 congr 1
 rw[Bool.eq_iff_iff]
 generalize eqT _ _ _=b
 by_cases h1:se=0
 ·cases b<;>cases b1<;>simp [h1]
 ·cases b<;>cases b1<;>simp [h1]
  all_goals omega
def HeadOk:Prop:=1<=a0/\a0<=1000000/\0<=a1/\a1<=16/\0<=a2/\a2<=4/\1<=a3/\a3<=8/\0<=a4/\a4<=a0
def SpansAll:Prop:=(∀ i,i<sp.length->SpanOk sp i)/\(if sp.length=0 then 0 else(nth zSpan sp (sp.length-1)).2.1)=a0/\sp.length<=16
def FrozenAll:Prop:=(∀ i,i<fz.length->((nth [] fz i).length:Int)=a3)/\fz.length=sp.length
def TracksAll:Prop:=(∀ i,i<tr.length->TrackOk a0 i (nth zTrack tr i))/\(tr.length:Int)=wr .i64 (a3*3)
def PlanOk:Prop:=HeadOk a0 a1 a2 a3 a4/\SpansAll a0 sp/\FrozenAll a3 sp fz/\TracksAll a0 a3 tr/\StopOk a2 a4 o1 st/\CutOk a2 a4 o2 cu/\KeepOk a2 a4 o3 ke/\AvgOk a0 sf se em
theorem p_plan(hs:sp.length<=9223372036854775807) (hf:fz.length<=9223372036854775807) (ht:tr.length<=9223372036854775807) (hg:∀ t∈tr,t.2.2.1.length<=9223372036854775807):plan_Check ((a0,a1,a2,a3,a4,sp,fz,tr,st,cu,ke,em,o1,o2,o3,sf,se,()),())=some (if PlanOk a0 a1 a2 a3 a4 sp fz tr st cu ke em o1 o2 o3 sf se then 0 else 1):=by
 unfold plan_Check
 dsimp only
 rw[show plan_spans ((a0,a1,a2,a3,a4,sp,fz,tr,st,cu,ke,em,o1,o2,o3,sf,se,()),())=some (decide (SpansAll a0 sp)) from(p_spans _ sp rfl hs).trans (congrArg some (decide_eq_decide.2 Iff.rfl)),show plan_frozen ((a0,a1,a2,a3,a4,sp,fz,tr,st,cu,ke,em,o1,o2,o3,sf,se,()),())=some (decide (FrozenAll a3 sp fz)) from(p_frozen _ fz rfl hf).trans (congrArg some (decide_eq_decide.2 Iff.rfl)),show plan_tracks ((a0,a1,a2,a3,a4,sp,fz,tr,st,cu,ke,em,o1,o2,o3,sf,se,()),())=some (decide (TracksAll a0 a3 tr)) from(p_tracks _ tr rfl ht hg).trans (congrArg some (decide_eq_decide.2 Iff.rfl))]
 unfold plan_within
 dsimp only
 by_cases h:HeadOk a0 a1 a2 a3 a4
 ·have h':=h
  unfold HeadOk at h'
  rw[p_stop _ _ _ _ _ _ _ _ _ _ _ _ _ _ _ _ _ h'.2.2.2.2.1 h'.2.2.2.2.2.1,p_cut _ _ _ _ _ _ _ _ _ _ _ _ _ _ _ _ _ h'.2.2.2.2.1 h'.2.2.2.2.2.1,p_keep _ _ _ _ _ _ _ _ _ _ _ _ _ _ _ _ _ h'.2.2.2.2.1 h'.2.2.2.2.2.1,p_avg]
  rw[dT (by omega:a0>=1),dT (by omega:a0<=1000000),dT (by omega:a1>=0),dT (by omega:a1<=16),dT (by omega:a2>=0),dT (by omega:a2<=4),dT (by omega:a3>=1),dT (by omega:a3<=8),dT (by omega:a4>=0),dT (by omega:a4<=a0)]
  simp only[bnd_mk,cnd_t,cnd_f,cnd_if,ite_some]
  congr 1
  unfold PlanOk
  by_cases b1:SpansAll a0 sp<;>by_cases b2:FrozenAll a3 sp fz<;>by_cases b3:TracksAll a0 a3 tr<;>simp only[h,b1,b2,b3,decide_true,decide_false,Bool.not_true,Bool.not_false,if_true,if_false,true_and,false_and,and_false,Bool.false_eq_true]
  by_cases b4:StopOk a2 a4 o1 st<;>by_cases b5:CutOk a2 a4 o2 cu<;>by_cases b6:KeepOk a2 a4 o3 ke<;>by_cases b7:AvgOk a0 sf se em<;>simp only[b4,b5,b6,b7,decide_true,decide_false,Bool.not_true,Bool.not_false,if_true,if_false,true_and,false_and,and_false,Bool.false_eq_true]
 ·have hn:¬ PlanOk a0 a1 a2 a3 a4 sp fz tr st cu ke em o1 o2 o3 sf se:=fun x=>h x.1
  rw[if_neg hn]
  unfold HeadOk at h
  simp only[bnd_mk,cnd_if,ite_some]
  by_cases c1:1<=a0/\a0<=1000000/\0<=a1/\a1<=16/\0<=a2/\a2<=4
  ·rw[dT (by omega:a0>=1),dT (by omega:a0<=1000000),dT (by omega:a1>=0),dT (by omega:a1<=16),dT (by omega:a2>=0),dT (by omega:a2<=4)]
   rw[if_neg (by simp),if_pos]
   by_cases c2:1<=a3/\a3<=8
   ·have c3:¬ (0<=a4/\a4<=a0):=by omega
    by_cases c4:0<=a4
    ·simp [c2,c4,show ¬ a4<=a0 by omega]
    ·simp [c2,c4]
   ·by_cases c4:1<=a3
    ·simp [c4,show ¬ a3<=8 by omega]
    ·simp [c4]
  ·rw[if_pos]
   by_cases d1:1<=a0
   ·by_cases d2:a0<=1000000
    ·by_cases d3:0<=a1
     ·by_cases d4:a1<=16
      ·by_cases d5:0<=a2
       ·simp [d1,d2,d3,d4,d5,show ¬ a2<=4 by omega]
       ·simp [d1,d2,d3,d4,d5]
      ·simp [d1,d2,d3,d4]
     ·simp [d1,d2,d3]
    ·simp [d1,d2]
   ·simp [d1]
theorem rl_spans(h0:1<=a0):SpansAll a0 sp↔1<=sp.length/\sp.length<=16/\(nth zSpan sp 0).1=0/\(nth zSpan sp (sp.length-1)).2.1=a0/\∀ i,i<sp.length->(nth zSpan sp i).1<(nth zSpan sp i).2.1/\(0<i->(nth zSpan sp i).1=(nth zSpan sp (i-1)).2.1):=by
 unfold SpansAll SpanOk
 constructor
 ·rintro⟨h1,h2,h3⟩
  by_cases hz:sp.length=0
  ·rw[if_pos hz] at h2;omega
  rw[if_neg hz] at h2
  refine⟨by omega,h3,?_,h2,fun i hi=>⟨(h1 i hi).1,fun hp=>?_⟩⟩
  ·have:=(h1 0 (by omega)).2
   simpa using this
  ·have:=(h1 i hi).2
   rw[if_neg (by omega)] at this
   exact this
 ·rintro⟨h1,h2,h3,h4,h5⟩
  refine⟨fun i hi=>⟨(h5 i hi).1,?_⟩,?_,h2⟩
  ·by_cases hi0:i=0
   ·subst hi0;simpa using h3
   ·rw[if_neg hi0];exact(h5 i hi).2 (by omega)
  ·rw[if_neg (by omega)];exact h4
theorem r_lists(hh:HeadOk a0 a1 a2 a3 a4) (hs:sp.length<=9223372036854775807) (hf:fz.length<=9223372036854775807) (ht:tr.length<=9223372036854775807) (hg:∀ t∈tr,t.2.2.1.length<=9223372036854775807):∃ q,q28_lists ((a0,a1,a2,a3,a4,sp,fz,tr,st,cu,ke,em,o1,o2,o3,sf,se,()),())=some q/\(q=true↔SpansAll a0 sp/\FrozenAll a3 sp fz/\TracksAll a0 a3 tr):=by
 unfold HeadOk at hh
 unfold q28_lists
 dsimp only
 rw[rl_spans a0 sp (by omega)]
 have ew:wr .i64 (3*a3)=wr .i64 (a3*3):=by rw[Int.mul_comm]
 rw[ew]
 by_cases c1:1<=sp.length
 ·rw[ati_0 zSpan (by omega:0<sp.length),ati_last zSpan (by omega:0<sp.length) hs]
  by_cases c:sp.length<=16/\(nth zSpan sp 0).1=0/\(nth zSpan sp (sp.length-1)).2.1=a0/\fz.length=sp.length/\(tr.length:Int)=wr .i64 (a3*3)
  ·obtain⟨c2,c3,c4,c5,c6⟩:=c
   simp only[bnd_mk,dT c3,dT c4,dT c6,dF (by omega:¬ (sp.length:Int)<1),dF (by omega:¬ (sp.length:Int)>16),dT (by omega:(fz.length:Int)=(sp.length:Int)),Bool.not_false,Bool.not_true,cnd_t,cnd_f,decide_true]
   rw[all_as (∀ i,i<sp.length->(nth zSpan sp i).1<(nth zSpan sp i).2.1/\(0<i->(nth zSpan sp i).1=(nth zSpan sp (i-1)).2.1)/\((nth [] fz i).length:Int)=a3) sp.length (fun i=>(nth zSpan sp i).1<(nth zSpan sp i).2.1/\(0<i->(nth zSpan sp i).1=(nth zSpan sp (i-1)).2.1)/\((nth [] fz i).length:Int)=a3) _ (.inr false) (.inl ()) Iff.rfl]
   ·rw[bndS_ite,all_as (∀ i,i<tr.length->TrackOk a0 i (nth zTrack tr i)) tr.length (fun i=>TrackOk a0 i (nth zTrack tr i)) _ (.inr false) (.inl ()) Iff.rfl]
    ·rw[bndS_ite,ite_some,ite_some]
     refine⟨_,rfl,?_⟩
     unfold FrozenAll TracksAll
     constructor
     ·intro x
      by_cases g1:∀ i,i<sp.length->(nth zSpan sp i).1<(nth zSpan sp i).2.1/\(0<i->(nth zSpan sp i).1=(nth zSpan sp (i-1)).2.1)/\((nth [] fz i).length:Int)=a3
      ·rw[if_pos g1] at x
       by_cases g2:∀ i,i<tr.length->TrackOk a0 i (nth zTrack tr i)
       ·exact⟨⟨c1,c2,c3,c4,fun i hi=>⟨(g1 i hi).1,(g1 i hi).2.1⟩⟩,⟨fun i hi=>(g1 i (by omega)).2.2,c5⟩,g2,c6⟩
       ·rw[if_neg g2] at x;cases x
      ·rw[if_neg g1] at x;cases x
     ·rintro⟨⟨_,_,_,_,g1⟩,⟨g2,_⟩,g3,_⟩
      rw[if_pos,if_pos g3]
      exact fun i hi=>⟨(g1 i hi).1,(g1 i hi).2,g2 i (by omega)⟩
    ·intro i hi _
     dsimp only
     rw[lt_true hi,cnd_t,ati_d zTrack hi,bnd_mk,wr_succ hi ht]
     have hm:nth zTrack tr i∈tr:=nth_mem hi
     rw[r_whole _ _ (hg _ hm)]
     unfold TrackOk
     generalize nth zTrack tr i=t at *
     generalize wr .i64 (Int.tdiv i 3)=u
     generalize Int.tmod (i:Int) 3=v
     by_cases h1:t.1=u
     ·by_cases h2:t.2.1=v
      ·by_cases h3:SegsOk t.2.2.1/\0<t.2.2.1.length/\(nth zSeg t.2.2.1 0).1=0/\(nth zSeg t.2.2.1 (t.2.2.1.length-1)).2.1=a0
       ·rw[if_pos ⟨h1,h2,h3⟩,dT h3]
        simp [h1,h2,cnd_if,bnd_mk,inlE,inrE_mk]
       ·rw[if_neg (fun x=>h3 x.2.2),dF h3]
        simp [h1,h2,cnd_if,bnd_mk,inlE,inrE_mk]
      ·simp [h1,h2,cnd_if,bnd_mk,inlE,inrE_mk]
     ·simp [h1,cnd_if,bnd_mk,inlE,inrE_mk]
    ·intro _
     dsimp only
     rw[lt_false,cnd_f]
     rfl
   ·intro i hi _
    dsimp only
    rw[lt_true hi,cnd_t,ati_d zSpan hi,bnd_mk,bnd_mk,wr_succ hi hs,ati_d [] (by omega:i<fz.length)]
    by_cases h0:0<i
    ·rw[ati_pred zSpan h0 hi hs,dT (by omega:(i:Int)>0)]
     by_cases h1:(nth zSpan sp i).1<(nth zSpan sp i).2.1
     ·by_cases h2:(nth zSpan sp i).1=(nth zSpan sp (i-1)).2.1
      ·have h3:¬ (nth zSpan sp (i-1)).2.1>=(nth zSpan sp i).2.1:=by omega
       by_cases h4:((nth [] fz i).length:Int)=a3
       ·simp [h1,h2,h3,h4,h0,cnd_if,bnd_mk,inlE,inrE_mk]
       ·simp [h1,h2,h3,h4,h0,cnd_if,bnd_mk,inlE,inrE_mk]
      ·simp [h1,h2,h0,cnd_if,bnd_mk,inlE,inrE_mk]
     ·simp [h1,h0,cnd_if,bnd_mk,inlE,inrE_mk]
    ·rw[dF (by omega:¬ (i:Int)>0)]
     by_cases h1:(nth zSpan sp i).1<(nth zSpan sp i).2.1
     ·by_cases h4:((nth [] fz i).length:Int)=a3
      ·simp [h1,h4,h0,cnd_if,bnd_mk,inlE,inrE_mk]
      ·simp [h1,h4,h0,cnd_if,bnd_mk,inlE,inrE_mk]
     ·simp [h1,h0,cnd_if,bnd_mk,inlE,inrE_mk]
   ·intro _
    dsimp only
    rw[lt_false,cnd_f]
    rfl
  ·refine⟨false,?_,⟨fun x=>(Bool.false_ne_true x).elim,fun x=>(c ⟨x.1.2.1,x.1.2.2.1,x.1.2.2.2.1,x.2.1.2,x.2.2.2⟩).elim⟩⟩
   simp only[bnd_mk,cnd_if,ite_some]
   rw[if_pos]
   by_cases k1:sp.length<=16
   ·have k1':¬ (sp.length:Int)>16:=by omega
    by_cases k2:(nth zSpan sp 0).1=0
    ·by_cases k3:(nth zSpan sp (sp.length-1)).2.1=a0
     ·by_cases k4:fz.length=sp.length
      ·have k5:¬ (tr.length:Int)=wr .i64 (a3*3):=fun x=>c ⟨k1,k2,k3,k4,x⟩
       simp [k1',k2,k3,k4,k5]
      ·have k4':¬ (fz.length:Int)=(sp.length:Int):=by omega
       simp [k1',k2,k3,k4']
     ·simp [k1',k2,k3]
    ·simp [k1',k2]
   ·have k1':(sp.length:Int)>16:=by omega
    simp [k1']
 ·refine⟨false,?_,⟨fun x=>(Bool.false_ne_true x).elim,fun x=>(c1 x.1.1).elim⟩⟩
  rw[dT (by omega:(sp.length:Int)<1)]
  rfl
theorem r_stop:∃ q:Bool,(q=true↔StopOk a2 a4 o1 st)/\∀ {β:Type} (K:Bool->Option β),(bnd (cnd (!decide (o1=(-1))) (bnd (q28_watched ((a0,a1,a2,a3,a4,sp,fz,tr,st,cu,ke,em,o1,o2,o3,sf,se,()),o1,st.2.1,st.1,())) fun r12=>bnd (cnd r12 (bnd (q28_count (st.2.2.2.1,())) fun r13=>some r13) (some false)) fun j14=>bnd (cnd j14 (bnd (q28_value (st.2.2.2.2.1,())) fun r15=>some r15) (some false)) fun j16=>some (!j16)) (some false)) fun j17=>bnd (cnd (!j17) (bnd (cnd (decide (o1=(-1))) (some (!eqT (.pr .bool (.pr .str (.pr .bool (.pr (.int .i64) (.pr (.int .i64) (.pr .bool .unit)))))) st (false,[],false,0,0,false,()))) (some false)) fun j18=>some j18) (some true)) K)=K (!q):=by
 obtain⟨b1,m1,c1,n1,n2,c2,_⟩:=st
 unfold q28_watched q28_count q28_value StopOk SeenOk
 dsimp only
 simp only[bnd_mk,cnd_if,ite_some]
 generalize eqT _ _ _=b
 refine⟨!_,?_,fun K=>congrArg K (Bool.not_not _).symm⟩
 by_cases h1:o1=-1
 ·simp [h1]
 ·by_cases h2:m1=[]
  ·cases b1<;>simp [h1,h2]
   omega
  ·simp [h1,h2]
theorem r_cut:∃ q:Bool,(q=true↔CutOk a2 a4 o2 cu)/\∀ {β:Type} (K:Bool->Option β),(bnd (cnd (!decide (o2=(-1))) (bnd (q28_watched ((a0,a1,a2,a3,a4,sp,fz,tr,st,cu,ke,em,o1,o2,o3,sf,se,()),o2,cu.2.1,cu.1,())) fun r20=>bnd (cnd r20 (bnd (q28_count (cu.2.2.2.2.1,())) fun r21=>some r21) (some false)) fun j22=>bnd (cnd j22 (bnd (q28_value (cu.2.2.2.2.2.2.2.1,())) fun r23=>some r23) (some false)) fun j24=>bnd (cnd j24 (bnd (q28_value (cu.2.2.2.2.2.2.1,())) fun r25=>some r25) (some false)) fun j26=>bnd (cnd j26 (some (decide (cu.2.2.2.1>=0))) (some false)) fun j27=>bnd (cnd j27 (some (decide (cu.2.2.2.1<4294967296))) (some false)) fun j28=>bnd (cnd j28 (some (decide (cu.2.2.2.2.2.1>=0))) (some false)) fun j29=>bnd (cnd j29 (some (decide (cu.2.2.2.2.2.1<=1099511627776))) (some false)) fun j30=>some (!j30)) (some false)) fun j31=>bnd (cnd (!j31) (bnd (cnd (decide (o2=(-1))) (some (!eqT (.pr .bool (.pr .str (.pr .bool (.pr (.int .i64) (.pr (.int .i64) (.pr (.int .i64) (.pr (.int .i64) (.pr (.int .i64) .unit)))))))) cu (false,[],false,0,0,0,0,0,()))) (some false)) fun j32=>some j32) (some true)) K)=K (!q):=by
 obtain⟨b1,m1,c1,n1,n2,n3,n4,n5,_⟩:=cu
 unfold q28_watched q28_count q28_value CutOk SeenOk
 dsimp only
 simp only[bnd_mk,cnd_if,ite_some]
 generalize eqT _ _ _=b
 refine⟨!_,?_,fun K=>congrArg K (Bool.not_not _).symm⟩
 by_cases h1:o2=-1
 ·simp [h1]
 ·by_cases h2:m1=[]
  ·cases b1<;>simp [h1,h2]
   omega
  ·simp [h1,h2]
theorem r_keep:∃ q:Bool,(q=true↔KeepOk a2 a4 o3 ke)/\∀ {β:Type} (K:Bool->Option β),(bnd (cnd (!decide (o3=(-1))) (bnd (q28_watched ((a0,a1,a2,a3,a4,sp,fz,tr,st,cu,ke,em,o1,o2,o3,sf,se,()),o3,ke.2.1,ke.1,())) fun r34=>bnd (cnd r34 (some (decide (ke.2.2.2.1>=1))) (some false)) fun j35=>bnd (cnd j35 (some (decide (ke.2.2.2.1<=16))) (some false)) fun j36=>some (!j36)) (some false)) fun j37=>bnd (cnd (!j37) (bnd (cnd (decide (o3=(-1))) (some (!eqT (.pr .bool (.pr .str (.pr .bool (.pr (.int .i64) .unit)))) ke (false,[],false,0,()))) (some false)) fun j38=>some j38) (some true)) K)=K (!q):=by
 obtain⟨b1,m1,c1,n1,_⟩:=ke
 unfold q28_watched KeepOk SeenOk
 dsimp only
 simp only[bnd_mk,cnd_if,ite_some]
 generalize eqT _ _ _=b
 refine⟨!_,?_,fun K=>congrArg K (Bool.not_not _).symm⟩
 by_cases h1:o3=-1
 ·simp [h1]
 ·by_cases h2:m1=[]
  ·cases b1<;>simp [h1,h2]
   omega
  ·simp [h1,h2]
theorem r_may(hs:sp.length<=9223372036854775807) (hf:fz.length<=9223372036854775807) (ht:tr.length<=9223372036854775807) (hg:∀ t∈tr,t.2.2.1.length<=9223372036854775807):∃ q,q28_May ((a0,a1,a2,a3,a4,sp,fz,tr,st,cu,ke,em,o1,o2,o3,sf,se,()),())=some q/\(q=true↔PlanOk a0 a1 a2 a3 a4 sp fz tr st cu ke em o1 o2 o3 sf se):=by
 unfold q28_May
 dsimp only
 by_cases h:HeadOk a0 a1 a2 a3 a4
 ·obtain⟨q,e,hq⟩:=r_lists a0 a1 a2 a3 a4 sp fz tr st cu ke em o1 o2 o3 sf se h hs hf ht hg
  rw[e]
  have hP:PlanOk a0 a1 a2 a3 a4 sp fz tr st cu ke em o1 o2 o3 sf se↔q=true/\StopOk a2 a4 o1 st/\CutOk a2 a4 o2 cu/\KeepOk a2 a4 o3 ke/\AvgOk a0 sf se em:=by
   rw[hq];unfold PlanOk
   exact⟨fun x=>⟨⟨x.2.1,x.2.2.1,x.2.2.2.1⟩,x.2.2.2.2⟩,fun x=>⟨h,x.1.1,x.1.2.1,x.1.2.2,x.2⟩⟩
  rw[hP]
  unfold HeadOk at h
  rw[dF (by omega:¬ a0<1),dF (by omega:¬ a0>1000000),dF (by omega:¬ a1<0),dF (by omega:¬ a1>16),dF (by omega:¬ a2<0),dF (by omega:¬ a2>4),dF (by omega:¬ a3<1),dF (by omega:¬ a3>8),dF (by omega:¬ a4<0),dF (by omega:¬ a4>a0)]
  obtain⟨q1,f1,g1⟩:=r_stop a0 a1 a2 a3 a4 sp fz tr st cu ke em o1 o2 o3 sf se
  obtain⟨q2,f2,g2⟩:=r_cut a0 a1 a2 a3 a4 sp fz tr st cu ke em o1 o2 o3 sf se
  obtain⟨q3,f3,g3⟩:=r_keep a0 a1 a2 a3 a4 sp fz tr st cu ke em o1 o2 o3 sf se
  rw[g1,g2,g3,← f1,← f2,← f3]
  simp only[bnd_mk,cnd_t,cnd_f,Bool.not_false,Bool.not_true]
  cases q
  ·exact⟨false,rfl,by simp⟩
  cases q1
  ·exact⟨false,rfl,by simp⟩
  cases q2
  ·exact⟨false,rfl,by simp⟩
  cases q3
  ·exact⟨false,rfl,by simp⟩
  obtain⟨b1,n1,_⟩:=em
  unfold q28_count AvgOk
  simp only[bnd_mk,cnd_if,ite_some]
  generalize eqT _ _ _=b
  refine⟨_,rfl,?_⟩
  by_cases h1:se=0
  ·cases b<;>cases b1<;>simp [h1]
   all_goals omega
  ·cases b<;>cases b1<;>simp [h1]
   all_goals omega
 ·refine⟨false,?_,⟨fun x=>(Bool.false_ne_true x).elim,fun x=>(h x.1).elim⟩⟩
  unfold HeadOk at h
  by_cases d1:a0<1
  ·rw[dT d1];rfl
  rw[dF d1]
  by_cases d2:a0>1000000
  ·rw[dT d2];rfl
  rw[dF d2]
  by_cases d3:a1<0
  ·rw[dT d3];rfl
  rw[dF d3]
  by_cases d4:a1>16
  ·rw[dT d4];rfl
  rw[dF d4]
  by_cases d5:a2<0
  ·rw[dT d5];rfl
  rw[dF d5]
  by_cases d6:a2>4
  ·rw[dT d6];rfl
  rw[dF d6]
  by_cases d7:a3<1
  ·rw[dT d7];rfl
  rw[dF d7]
  by_cases d8:a3>8
  ·rw[dT d8];rfl
  rw[dF d8]
  by_cases d9:a4<0
  ·rw[dT d9];rfl
  rw[dF d9]
  by_cases d10:a4>a0
  ·rw[dT d10];rfl
  omega
end
section
variable (a0 a1 a2 a3 a4:Int) (sp:List SpanD) (fz:List (List Bool)) (tr:List TrackD) (st:StopD) (cu:CutD) (ke:KeepD) (em:Bool×Int×Unit) (o1 o2 o3 sf se:Int)
theorem light:∃ q,l28_Light ((a0,a1,a2,a3,a4,sp,fz,tr,st,cu,ke,em,o1,o2,o3,sf,se,()),())=some q:=by
 unfold l28_Light
 dsimp only
 rw[all_as (∀ i,i<min tr.length 31->(nth zTrack tr i).2.2.1.length<=60) (min tr.length 31) (fun i=>(nth zTrack tr i).2.2.1.length<=60) _ (.inr false) (.inl ()) Iff.rfl]
 ·rw[bndS_ite,all_as (∀ i,i<min fz.length 21->(nth [] fz i).length<=60) (min fz.length 21) (fun i=>(nth [] fz i).length<=60) _ (.inr false) (.inl ()) Iff.rfl]
  ·rw[bndS_ite]
   simp only[bnd_mk,cnd_if,ite_some]
   exact⟨_,rfl⟩
  ·intro i hi _
   dsimp only
   have h1:i<fz.length:=by omega
   rw[dT (by omega:(i:Int)<(fz.length:Int)),dT (by omega:(i:Int)<=20),ati_d [] h1,wr_succ hi (by omega)]
   by_cases h:(nth [] fz i).length<=60
   ·have h':¬ ((nth [] fz i).length:Int)>60:=by omega
    rw[if_pos h]
    simp only[bnd_mk,cnd_t]
    rw[dF h']
    rfl
   ·have h':((nth [] fz i).length:Int)>60:=by omega
    rw[if_neg h]
    simp only[bnd_mk,cnd_t]
    rw[dT h']
    rfl
  ·intro _
   dsimp only
   by_cases h:fz.length<21
   ·rw[dF (by omega:¬ ((min fz.length 21:Nat):Int)<(fz.length:Int))];rfl
   ·rw[dF (by omega:¬ ((min fz.length 21:Nat):Int)<=20)]
    cases decide (((min fz.length 21:Nat):Int)<(fz.length:Int))<;>rfl
 ·intro i hi _
  dsimp only
  have h1:i<tr.length:=by omega
  rw[dT (by omega:(i:Int)<(tr.length:Int)),dT (by omega:(i:Int)<=30),ati_d zTrack h1,wr_succ hi (by omega)]
  by_cases h:(nth zTrack tr i).2.2.1.length<=60
  ·have h':¬ ((nth zTrack tr i).2.2.1.length:Int)>60:=by omega
   rw[if_pos h]
   simp only[bnd_mk,cnd_t]
   rw[dF h']
   rfl
  ·have h':((nth zTrack tr i).2.2.1.length:Int)>60:=by omega
   rw[if_neg h]
   simp only[bnd_mk,cnd_t]
   rw[dT h']
   rfl
 ·intro _
  dsimp only
  by_cases h:tr.length<31
  ·rw[dF (by omega:¬ ((min tr.length 31:Nat):Int)<(tr.length:Int))];rfl
  ·rw[dF (by omega:¬ ((min tr.length 31:Nat):Int)<=30)]
   cases decide (((min tr.length 31:Nat):Int)<(tr.length:Int))<;>rfl
end
end Go.Proofs.YtmomjjgokeffnaaGreat.F
namespace Go.Proofs.YtmomjjgokeffnaaGreat.F
open Go.VX
open Classical
abbrev exSeg (n A:Int):SegD:=(0,n,0,n,(1,A,0,0,()),0,0,())
theorem exSeg_ok(n A:Int) (h1:1<=n) (h2:n<=1000000) (h3:0<=A) (h4:A<=4503599627370496):SegOk (exSeg n A):=by
 unfold SegOk CurveOk
 dsimp only
 omega
theorem exSegs_ok(n A:Int) (h1:1<=n) (h2:n<=1000000) (h3:0<=A) (h4:A<=4503599627370496):SegsOk [exSeg n A]:=by
 intro i hi
 have:i=0:=by simp at hi;exact hi
 subst this
 exact⟨exSeg_ok n A h1 h2 h3 h4,fun h=>by omega⟩
theorem exTrack(n A:Int) (h1:1<=n) (h2:n<=1000000) (h3:0<=A) (h4:A<=4503599627370496) (i:Nat) (g p:Int) (hg:g=wr .i64 (Int.tdiv i 3)) (hp:p=Int.tmod i 3):TrackOk n i (g,p,[exSeg n A],()) :=
 ⟨hg,hp,exSegs_ok n A h1 h2 h3 h4,by simp,rfl,rfl⟩
theorem exPlan(n A a2 a4:Int) (ke:KeepD) (o3:Int) (h1:1<=n) (h2:n<=1000000) (h3:0<=A) (h4:A<=4503599627370496) (h5:0<=a2) (h6:a2<=4) (h7:0<=a4) (h8:a4<=n) (hk:KeepOk a2 a4 o3 ke) :
  PlanOk n 0 a2 1 a4 [(0,n,())] [[false]] [(0,0,[exSeg n A],()),(0,1,[exSeg n A],()),(0,2,[exSeg n A],())] (false,[],false,0,0,false,()) (false,[],false,0,0,0,0,0,()) ke (false,0,()) (-1) (-1) o3 0 0:=by
 refine⟨by unfold HeadOk;omega,⟨fun i hi=>?_,rfl,by simp⟩,⟨fun i hi=>?_,rfl⟩,⟨fun i hi=>?_,rfl⟩,.inl ⟨rfl,rfl⟩,.inl ⟨rfl,rfl⟩,hk,?_⟩
 ·have:i=0:=by simp at hi;exact hi
  subst this
  exact⟨by show(0:Int)<n;omega,rfl⟩
 ·have:i=0:=by simp at hi;exact hi
  subst this
  rfl
 ·have:i=0\/i=1\/i=2:=by simp at hi;omega
  rcases this with rfl | rfl | rfl
  ·exact exTrack n A h1 h2 h3 h4 0 0 0 rfl rfl
  ·exact exTrack n A h1 h2 h3 h4 1 0 1 rfl rfl
  ·exact exTrack n A h1 h2 h3 h4 2 0 2 rfl rfl
 ·unfold AvgOk
  simp [eqT]
  try omega
theorem keep_none(a2 a4:Int):KeepOk a2 a4 (-1) (false,[],false,0,()):=.inl ⟨rfl,rfl⟩
end Go.Proofs.YtmomjjgokeffnaaGreat.F
namespace Go.Proofs.YtmomjjgokeffnaaGreat.F
open Go.VX
open Classical
abbrev KeptD:=Int×Int×Unit
abbrev WatchD:=Bool×Int×Int×Unit
abbrev CutSD:=WatchD×Int×Int×Unit
abbrev StateD:=Int×Int×Int×WatchD×CutSD×List KeptD×List Int×(Int×List Int×Unit)×Unit
theorem len_nat{α:Type} (a b:List α):decide ((a.length:Int)=(b.length:Int))=decide (a.length=b.length):=by
 rw[decide_eq_decide];omega
abbrev tWatch:Ty:=.pr .bool (.pr (.int .i64) (.pr (.int .i64) .unit))
abbrev tCutS:Ty:=.pr tWatch (.pr (.int .i64) (.pr (.int .i64) .unit))
def SwaP(from' every:Int) (i:Int):Prop:=0<every/\from'<=i/\(i-from') % every=0
noncomputable def sumsF(from' every:Int):Nat->Int
 | 0=>0
 | n+1=>sumsF from' every n+if SwaP from' every n then 1 else 0
theorem r_swa(p) (from' every i:Int) (hp1:p.2.2.2.2.2.2.2.2.2.2.2.2.2.2.2.1=from') (hp2:p.2.2.2.2.2.2.2.2.2.2.2.2.2.2.2.2.1=every) (h0:0<=from') (h1:from'<=1099511627776) (i0:0<=i) (i1:i<=1099511627776) (e1:every<=9223372036854775807) :
  q37_Swa (p,i,())=some (decide (SwaP from' every i)):=by
 subst hp1 hp2
 unfold q37_Swa
 dsimp only
 by_cases k1:p.2.2.2.2.2.2.2.2.2.2.2.2.2.2.2.2.1>0
 ·rw[dT k1,cnd_t,bnd_mk]
  by_cases k2:i>=p.2.2.2.2.2.2.2.2.2.2.2.2.2.2.2.1
  ·rw[dT k2,cnd_t,wr_id (x:=i-_) (by omega) (by omega)]
   have hr:remI (i-p.2.2.2.2.2.2.2.2.2.2.2.2.2.2.2.1) p.2.2.2.2.2.2.2.2.2.2.2.2.2.2.2.2.1=some ((i-p.2.2.2.2.2.2.2.2.2.2.2.2.2.2.2.1) % p.2.2.2.2.2.2.2.2.2.2.2.2.2.2.2.2.1):=by
    unfold remI
    rw[if_neg (by omega),Int.tmod_eq_emod_of_nonneg (by omega)]
   rw[hr]
   simp only[bnd_mk]
   congr 1
   rw[decide_eq_decide]
   exact⟨fun h=>⟨k1,k2,h⟩,fun h=>h.2.2⟩
  ·rw[dF k2,cnd_f,bnd_mk,dF (fun h=>k2 h.2.1)]
 ·rw[dF k1,cnd_f,bnd_mk,cnd_f,bnd_mk,dF (fun h=>k1 h.1)]
theorem sums_nn(from' every:Int):∀ n,0<=sumsF from' every n/\sumsF from' every n<=n
 | 0=>by simp [sumsF]
 | n+1=>by
  have:=sums_nn from' every n
  simp only[sumsF]
  split<;>omega
theorem r_sums(p) (from' every n:Int) (hp1:p.2.2.2.2.2.2.2.2.2.2.2.2.2.2.2.1=from') (hp2:p.2.2.2.2.2.2.2.2.2.2.2.2.2.2.2.2.1=every) (h0:0<=from') (h1:from'<=1099511627776) (hn:n<=1099511627776) (e1:every<=9223372036854775807) :
  q37_Sums (p,n,())=some (sumsF from' every n.toNat):=by
 unfold q37_Sums
 dsimp only
 obtain⟨r,e,h⟩:=loop_rule (ρ:=Int×Unit) (f:=(fun(s2:Int×Int×Unit)=>cnd (decide (s2.2.1<n)) (bnd (q37_Swa (p,s2.2.1,())) fun r3=>bnd (cnd r3 (some (wr .i64 (s2.1+1),())) (some (s2.1,()))) fun j4=>inlE (j4.1,wr .i64 (s2.2.1+1),())) (inrE (some (s2.1,())))))
  (fun s=>0<=s.2.1/\s.2.1.toNat<=n.toNat/\s.1=sumsF from' every s.2.1.toNat) (fun s=>n.toNat-s.2.1.toNat) (fun r=>r.1=sumsF from' every n.toNat) (fun s ⟨i0,i1,i2⟩=>by
   obtain⟨a,i,_⟩:=s
   dsimp only at *
   obtain⟨k,rfl⟩:∃ k:Nat,i=k:=⟨i.toNat,by omega⟩
   rw[Int.toNat_natCast] at i1 i2
   subst i2
   have hb:=sums_nn from' every k
   by_cases hk:(k:Int)<n
   ·left
    rw[dT hk,cnd_t,r_swa p from' every k hp1 hp2 h0 h1 (by omega) (by omega) e1,bnd_mk,wr_id (x:=(k:Int)+1) (by omega) (by omega),wr_id (x:=sumsF from' every k+1) (by omega) (by omega)]
    refine⟨(sumsF from' every (k+1),(k:Int)+1,()),?_,⟨by dsimp only;omega,by dsimp only;omega,by dsimp only;rw[show((k:Int)+1).toNat=k+1 by omega]⟩,by dsimp only;omega⟩
    by_cases hs:SwaP from' every (k:Int)
    ·rw[dT hs];simp only[sumsF,if_pos hs];rfl
    ·rw[dF hs];simp only[sumsF,if_neg hs,Int.add_zero];rfl
   ·right
    rw[dF hk,cnd_f]
    have:k=n.toNat:=by omega
    exact⟨_,rfl,by rw[this]⟩) (0,0,()) ⟨by dsimp only;omega,by dsimp only;simp,rfl⟩
 rw[e,bnd_mk,h]
theorem div_up(m e:Nat) (he:0<e):(m+1) / e=m / e+if(m+1) % e=0 then 1 else 0:=by
 have hd:=Nat.div_add_mod m e
 have hr:=Nat.mod_lt m he
 generalize m / e=q at *
 generalize m % e=r at *
 subst hd
 by_cases h:r+1=e
 ·have h2:e*q+r+1=e*(q+1):=by rw[Nat.mul_add];omega
  rw[h2,Nat.mul_div_cancel_left _ he,Nat.mul_mod_right,if_pos rfl]
 ·rw[Nat.add_assoc,Nat.mul_add_div he,Nat.mul_add_mod,Nat.div_eq_of_lt (by omega),Nat.mod_eq_of_lt (by omega),if_neg (by omega)]
theorem sums_form(f e:Nat) (he:0<e):∀ n:Nat,sumsF f e n=if n<=f then 0 else(((n-1-f) / e+1:Nat):Int)
 | 0=>by simp [sumsF]
 | n+1=>by
  simp only[sumsF,sums_form f e he n]
  by_cases h:n+1<=f
  ·rw[if_pos (by omega),if_pos h,if_neg (fun k=>by have:=k.2.1;omega)];rfl
  ·rw[if_neg h]
   by_cases h2:n<=f
   ·have hn:n=f:=by omega
    subst hn
    rw[if_pos (Nat.le_refl _),if_pos ⟨by omega,by omega,by simp⟩,show n+1-1-n=0 by omega,Nat.zero_div]
    rfl
   ·rw[if_neg h2]
    obtain⟨m,hm⟩:∃ m,n-1-f=m:=⟨_,rfl⟩
    have hm2:n+1-1-f=m+1:=by omega
    rw[hm,hm2,div_up m e he]
    have hi:((n:Int)-(f:Int)) % (e:Int)=(((m+1) % e:Nat):Int):=by
     rw[show(n:Int)-(f:Int)=((m+1:Nat):Int) by omega]
     exact(Int.natCast_emod _ _).symm
    by_cases h3:(m+1) % e=0
    ·rw[if_pos ⟨by omega,by omega,by rw[hi,h3];rfl⟩,if_pos h3]
     omega
    ·rw[if_neg (fun k=>h3 (by have:=k.2.2;rw[hi] at this;omega)),if_neg h3]
     omega
theorem p_sums(p) (from' every n:Int) (hp1:p.2.2.2.2.2.2.2.2.2.2.2.2.2.2.2.1=from') (hp2:p.2.2.2.2.2.2.2.2.2.2.2.2.2.2.2.2.1=every) (h1:from'<=1099511627776) (hn:n<=1099511627776) (e1:every<=9223372036854775807) :
  state_Sums (p,n,())=some (if from'<0 then 0 else sumsF from' every n.toNat):=by
 subst hp1 hp2
 unfold state_Sums
 dsimp only
 by_cases k1:p.2.2.2.2.2.2.2.2.2.2.2.2.2.2.2.2.1<1
 ·rw[dT k1]
  have:∀ n:Nat,sumsF p.2.2.2.2.2.2.2.2.2.2.2.2.2.2.2.1 p.2.2.2.2.2.2.2.2.2.2.2.2.2.2.2.2.1 n=0:=by
   intro n
   induction n with
   | zero=>rfl
   | succ n ih=>simp only[sumsF,ih];rw[if_neg (fun k=>by have:=k.1;omega)];rfl
  rw[this]
  simp [bnd_mk,cnd_t,cnd_f]
 ·rw[dF k1]
  by_cases k2:p.2.2.2.2.2.2.2.2.2.2.2.2.2.2.2.1<0
  ·rw[dT k2,if_pos k2];rfl
  ·rw[dF k2,if_neg k2]
   generalize p.2.2.2.2.2.2.2.2.2.2.2.2.2.2.2.1=f at *
   generalize p.2.2.2.2.2.2.2.2.2.2.2.2.2.2.2.2.1=e at *
   obtain⟨f,rfl⟩:∃ k:Nat,f=k:=⟨f.toNat,by omega⟩
   obtain⟨e,rfl⟩:∃ k:Nat,e=k:=⟨e.toNat,by omega⟩
   rw[sums_form f e (by omega)]
   by_cases k3:n<=(f:Int)
   ·rw[dT k3,if_pos (by omega)];rfl
   ·rw[dF k3,if_neg (by omega)]
    simp only[bnd_mk,cnd_t,cnd_f,Bool.not_false,Bool.not_true]
    obtain⟨n,rfl⟩:∃ k:Nat,n=k:=⟨n.toNat,by omega⟩
    rw[Int.toNat_natCast,wr_id (x:=(n:Int)-1) (by omega) (by omega),wr_id (x:=(n:Int)-1-(f:Int)) (by omega) (by omega),show(n:Int)-1-(f:Int)=((n-1-f:Nat):Int) by omega]
    have hle:(n-1-f) / e<=n-1-f:=Nat.div_le_self _ _
    have hd2:(((n-1-f:Nat):Int)) / (e:Int)=(((n-1-f) / e:Nat):Int):=rfl
    have hq:quoI .i64 ((n-1-f:Nat):Int) (e:Int)=some (((n-1-f) / e:Nat):Int):=by
     unfold quoI
     rw[if_neg (by omega),Int.tdiv_eq_ediv_of_nonneg (by omega),hd2]
     generalize (n-1-f) / e=k at *
     show some (wr .i64 _)=_
     rw[wr_id (x:=(k:Int)) (by omega) (by omega)]
    rw[hq,bnd_mk]
    generalize (n-1-f) / e=k at *
    rw[wr_id (by omega) (by omega)]
    rfl
end Go.Proofs.YtmomjjgokeffnaaGreat.F
namespace Go.Proofs.YtmomjjgokeffnaaGreat.F
open Go.VX
open Classical
abbrev eqi:Int->Int->Bool:=fun(a b:Int)=>decide (a=b)
theorem mp_get_cons{α:Type} (k':Int) (v:α) (r:List (Int×α)) (s:Int) (z:α):mpVal ((k',v)::r) (mpAt eqi ((k',v)::r) s) z=if s=k' then v else mpVal r (mpAt eqi r s) z:=by
 simp only[mpAt]
 by_cases h:s=k'
 ·rw[show eqi s k'=true from dT h,if_pos h];rfl
 ·rw[show eqi s k'=false from dF h,if_neg h]
  unfold mpVal
  rw[List.getElem?_cons_succ]
theorem mp_put_nil{α:Type} (k:Int) (v:α):mpPut [] (mpAt eqi ([]:List (Int×α)) k) k v=[(k,v)]:=rfl
theorem mp_put_cons{α:Type} (k':Int) (v':α) (r:List (Int×α)) (k:Int) (v:α):mpPut ((k',v')::r) (mpAt eqi ((k',v')::r) k) k v=if k=k' then(k,v)::r else(k',v')::mpPut r (mpAt eqi r k) k v:=by
 simp only[mpAt]
 by_cases h:k=k'
 ·rw[show eqi k k'=true from dT h,if_pos h];rfl
 ·rw[show eqi k k'=false from dF h,if_neg h]
  unfold mpPut
  by_cases hb:mpAt eqi r k<r.length
  ·rw[show Nat.blt (mpAt eqi r k+1) ((k',v')::r).length=true from Nat.ble_eq_true_of_le (by simp;omega),show Nat.blt (mpAt eqi r k) r.length=true from Nat.ble_eq_true_of_le (by omega)]
   rfl
  ·have f:∀ a b:Nat,¬ a<b->Nat.blt a b=false:=fun a b h=>by
    cases hb:Nat.blt a b
    ·rfl
    ·have:=Nat.le_of_ble_eq_true hb;omega
   rw[f _ _ (by simp;omega),f _ _ hb]
   rfl
theorem mp_get_put{α:Type} (z v:α) (k s:Int):∀ l:List (Int×α),mpVal (mpPut l (mpAt eqi l k) k v) (mpAt eqi (mpPut l (mpAt eqi l k) k v) s) z=if s=k then v else mpVal l (mpAt eqi l s) z
 | []=>by rw[mp_put_nil,mp_get_cons]
 | (k',v')::r=>by
  rw[mp_put_cons]
  by_cases h:k=k'
  ·subst h
   rw[if_pos rfl,mp_get_cons,mp_get_cons]
   by_cases h2:s=k
   ·rw[if_pos h2,if_pos h2]
   ·rw[if_neg h2,if_neg h2,if_neg h2]
  ·rw[if_neg h,mp_get_cons,mp_get_put z v k s r,mp_get_cons]
   by_cases h2:s=k'
   ·rw[if_pos h2,if_pos h2,if_neg (fun e=>h (e.symm.trans h2))]
   ·rw[if_neg h2,if_neg h2]
abbrev KpD:=Int×Int×Unit
abbrev zKp:KpD:=(0,0,())
def AheadB(most:Bool) (a b:KpD):Prop:=if most=true then b.2.1<a.2.1 else a.2.1<b.2.1
def In64(x:Int):Prop:=-9223372036854775808<=x/\x<=9223372036854775807
theorem p_better(x b:Int) (most:Bool) (hx:In64 x) (hb:In64 b):better_Is (x,b,(most,0,false,()),())=some (decide (if most=true then b<x else x<b)):=by
 unfold In64 at hx hb
 have key:∀ hi lo:Int,-9223372036854775808<=hi->hi<=9223372036854775807->-9223372036854775808<=lo->lo<=9223372036854775807 ->
   (bnd (better_apart (hi,lo,())) fun r2=>bnd (better_Gap (b,(most,0,false,()),())) fun r3=>bnd (cnd r2.2.1 (some r3.2.1) (some false)) fun j4=>bnd (cnd j4 (some (decide (r2.1>(wr .u64 r3.1)))) (some false)) fun j5=>some j5)=some (decide (lo<hi)):=by
  intro hi lo h1 h2 h3 h4
  have hm:maxL 0 [0]=0:=rfl
  unfold better_apart better_Gap
  simp only[bnd_mk,cnd_t,cnd_f,Bool.not_false,hm,wru_mod]
  by_cases h:hi>lo
  ·rw[dT h]
   simp only[bnd_mk,cnd_t]
   rw[dT (by omega)]
  ·rw[dF h]
   simp only[bnd_mk,cnd_f]
 unfold better_Is
 dsimp only
 cases most with
 | true=>rw[cnd_t,bnd_mk];exact key x b hx.1 hx.2 hb.1 hb.2
 | false=>rw[cnd_f,bnd_mk];exact key b x hb.1 hb.2 hx.1 hx.2
theorem p_ahead(a b:KpD) (most:Bool) (ha:In64 a.2.1) (hb:In64 b.2.1):bnd (best_of_1 ((a,b,(),()),(most,()))) some=some (decide (AheadB most a b)):=by
 unfold best_of_1
 dsimp only
 rw[p_better _ _ _ ha hb]
 simp only[bnd_mk]
 exact congrArg some (decide_eq_decide.2 Iff.rfl)
theorem r_ahead(a b:KpD) (most:Bool):q32_Ahead (a,b,most,())=some (decide (AheadB most a b)):=by
 unfold q32_Ahead
 cases most
 ·exact congrArg some (decide_eq_decide.2 (by unfold AheadB;simp))
 ·exact congrArg some (decide_eq_decide.2 (by unfold AheadB;simp))
def KStep(most:Bool) (l:List KpD) (i:Nat):Prop:=(∀ k,k<i->(nth zKp l k).1≠(nth zKp l i).1)/\(0<i->¬ AheadB most (nth zKp l i) (nth zKp l (i-1))/\¬ ((nth zKp l i).2.1=(nth zKp l (i-1)).2.1/\(nth zKp l i).1<(nth zKp l (i-1)).1))
def KeptOk(l:List KpD) (count:Int) (most:Bool):Prop:=(∀ i,i<l.length->KStep most l i)/\(l.length:Int)<=count
def KRange(l:List KpD):Prop:=∀ x,x∈l->In64 x.2.1
theorem met_step(l:List KpD) (i:Nat) (m:List (Int×Int)) (hm:∀ s,mpVal m (mpAt eqi m s) 0=if ∃ k,k<i/\(nth zKp l k).1=s then 1 else 0) (hd:∀ k,k<i->(nth zKp l k).1≠(nth zKp l i).1) :
  ∀ s,mpVal (mpPut m (mpAt eqi m (nth zKp l i).1) (nth zKp l i).1 1) (mpAt eqi (mpPut m (mpAt eqi m (nth zKp l i).1) (nth zKp l i).1 1) s) 0=if ∃ k,k<i+1/\(nth zKp l k).1=s then(1:Int) else 0:=by
 intro s
 rw[mp_get_put]
 by_cases h:s=(nth zKp l i).1
 ·rw[if_pos h,if_pos ⟨i,by omega,h.symm⟩]
 ·rw[if_neg h,hm]
  apply if_same
  constructor
  ·rintro⟨k,hk,e⟩;exact⟨k,by omega,e⟩
  ·rintro⟨k,hk,e⟩
   by_cases hki:k=i
   ·subst hki;exact(h e.symm).elim
   ·exact⟨k,by omega,e⟩
theorem p_bestcheck(l:List KpD) (count:Int) (most:Bool) (hl:l.length<=9223372036854775807) (hr:KRange l):best_Check (l,count,most,())=some (decide (KeptOk l count most)):=by
 unfold best_Check best_of
 dsimp only
 rw[bnd_mk]
 dsimp only
 obtain⟨r,e,h⟩:=loop_rule (ρ:=Unit ⊕ Bool) (f:=(fun(s3:Int×(List ((Int×Int))×Unit)×Unit)=>cnd (decide (s3.1<(l.length:Int))) (bnd (ati l s3.1) fun v4=>cnd (decide ((mpVal (mpPut s3.2.1.1 (mpAt (fun(a b:Int)=>decide (a=b)) s3.2.1.1 v4.1) v4.1 (wr .i64 ((mpVal s3.2.1.1 (mpAt (fun(a b:Int)=>decide (a=b)) s3.2.1.1 v4.1) 0)+1))) (mpAt (fun(a b:Int)=>decide (a=b)) (mpPut s3.2.1.1 (mpAt (fun(a b:Int)=>decide (a=b)) s3.2.1.1 v4.1) v4.1 (wr .i64 ((mpVal s3.2.1.1 (mpAt (fun(a b:Int)=>decide (a=b)) s3.2.1.1 v4.1) 0)+1))) v4.1) 0)>1)) (inrE (inrE (some false))) (bnd (cnd (decide (s3.1>0)) (bnd (ati l (wr .i64 (s3.1-1))) fun v5=>bnd ((fun a1:KpD×KpD×Unit=>bnd (best_of_1 ((a1.1,a1.2.1,(),()),(most,()))) some) (v4,v5,())) fun r6=>bnd (cnd (!r6) (bnd (ati l (wr .i64 (s3.1-1))) fun v7=>bnd (cnd (decide (v4.2.1=v7.2.1)) (bnd (ati l (wr .i64 (s3.1-1))) fun v8=>some (decide (v4.1<v8.1))) (some false)) fun j9=>some j9) (some true)) fun j10=>some j10) (some false)) fun j11=>cnd j11 (inrE (inrE (some false))) (inlE (wr .i64 (s3.1+1),(mpPut s3.2.1.1 (mpAt (fun(a b:Int)=>decide (a=b)) s3.2.1.1 v4.1) v4.1 (wr .i64 ((mpVal s3.2.1.1 (mpAt (fun(a b:Int)=>decide (a=b)) s3.2.1.1 v4.1) 0)+1)),()),())))) (inrE (inlE (())))))
  (fun s=>0<=s.1/\s.1<=l.length/\(∀ i,i<s.1.toNat->KStep most l i)/\∀ x,mpVal s.2.1.1 (mpAt eqi s.2.1.1 x) 0=if ∃ k,k<s.1.toNat/\(nth zKp l k).1=x then 1 else 0) (fun s=>l.length-s.1.toNat)
  (fun r=>(r=.inl ()/\∀ i,i<l.length->KStep most l i)\/(r=.inr false/\¬ ∀ i,i<l.length->KStep most l i)) (fun s ⟨i0,i1,i2,i3⟩=>by
   obtain⟨i,⟨m,_⟩,_⟩:=s
   dsimp only at i0 i1 i2 i3 ⊢
   obtain⟨k,rfl⟩:∃ k:Nat,i=k:=⟨i.toNat,by omega⟩
   rw[Int.toNat_natCast] at i2 i3
   by_cases hk:k<l.length
   ·rw[lt_true hk,cnd_t,ati_d zKp hk,bnd_mk,wr_succ hk hl]
    have hw:wr .i64 (mpVal m (mpAt eqi m (nth zKp l k).1) 0+1)=(if ∃ j,j<k/\(nth zKp l j).1=(nth zKp l k).1 then 1 else 0)+1:=by
     rw[i3]
     split<;>rfl
    rw[show wr .i64 (mpVal m (mpAt (fun(a b:Int)=>decide (a=b)) m (nth zKp l k).1) 0+1)=_ from hw,show mpVal (mpPut m (mpAt (fun(a b:Int)=>decide (a=b)) m (nth zKp l k).1) (nth zKp l k).1 _) (mpAt (fun(a b:Int)=>decide (a=b)) (mpPut m (mpAt (fun(a b:Int)=>decide (a=b)) m (nth zKp l k).1) (nth zKp l k).1 _) (nth zKp l k).1) 0=_ from mp_get_put 0 _ (nth zKp l k).1 (nth zKp l k).1 m,if_pos rfl]
    by_cases hd:∃ j,j<k/\(nth zKp l j).1=(nth zKp l k).1
    ·right
     rw[if_pos hd]
     refine⟨.inr false,rfl,.inr ⟨rfl,fun h=>?_⟩⟩
     obtain⟨j,hj,e⟩:=hd
     exact(h k hk).1 j hj e
    ·rw[if_neg hd]
     have hd':∀ j,j<k->(nth zKp l j).1≠(nth zKp l k).1:=fun j hj e=>hd ⟨j,hj,e⟩
     rw[show(decide ((0:Int)+1>1))=false from rfl,cnd_f]
     have hms:=met_step l k m i3 hd'
     by_cases h0:0<k
     ·rw[dT (by omega:(k:Int)>0),cnd_t,ati_pred zKp h0 hk hl,bnd_mk,p_ahead _ _ _ (hr _ (nth_mem hk)) (hr _ (nth_mem (by omega))),bnd_mk]
      by_cases ha:AheadB most (nth zKp l k) (nth zKp l (k-1))
      ·right
       rw[dT ha]
       exact⟨.inr false,rfl,.inr ⟨rfl,fun h=>((h k hk).2 h0).1 ha⟩⟩
      ·rw[dF ha,Bool.not_false,cnd_t,bnd_mk]
       by_cases hv:(nth zKp l k).2.1=(nth zKp l (k-1)).2.1
       ·rw[dT hv,cnd_t,bnd_mk]
        by_cases hs:(nth zKp l k).1<(nth zKp l (k-1)).1
        ·right
         rw[dT hs]
         exact⟨.inr false,rfl,.inr ⟨rfl,fun h=>((h k hk).2 h0).2 ⟨hv,hs⟩⟩⟩
        ·left
         rw[dF hs]
         refine⟨_,rfl,⟨by dsimp only;omega,by dsimp only;omega,fun j hj=>?_,?_⟩,by dsimp only;omega⟩
         ·dsimp only at hj
          by_cases hjk:j=k
          ·subst hjk;exact⟨hd',fun _=>⟨ha,fun h=>hs h.2⟩⟩
          ·exact i2 j (by omega)
         ·dsimp only
          rw[show((k:Int)+1).toNat=k+1 by omega]
          exact hms
       ·left
        rw[dF hv]
        refine⟨_,rfl,⟨by dsimp only;omega,by dsimp only;omega,fun j hj=>?_,?_⟩,by dsimp only;omega⟩
        ·dsimp only at hj
         by_cases hjk:j=k
         ·subst hjk;exact⟨hd',fun _=>⟨ha,fun h=>hv h.1⟩⟩
         ·exact i2 j (by omega)
        ·dsimp only
         rw[show((k:Int)+1).toNat=k+1 by omega]
         exact hms
     ·left
      have:k=0:=by omega
      subst this
      refine⟨_,rfl,⟨by dsimp only;omega,by dsimp only;omega,fun j hj=>?_,?_⟩,by dsimp only;omega⟩
      ·dsimp only at hj
       have:j=0:=by omega
       subst this
       exact⟨hd',fun h=>by omega⟩
      ·exact hms
   ·right
    have hkn:k=l.length:=by omega
    subst hkn
    rw[lt_false,cnd_f]
    exact⟨_,rfl,.inl ⟨rfl,i2⟩⟩) (0,([],()),()) ⟨by dsimp only;omega,by dsimp only;omega,fun i hi=>by simp at hi,fun x=>by
   rw[if_neg (by rintro⟨k,hk,_⟩;simp at hk)];rfl⟩
 rw[e]
 rcases h with⟨rfl,h⟩ | ⟨rfl,h⟩
 ·rw[bndS_l]
  congr 1
  rw[decide_eq_decide]
  exact⟨fun k=>⟨h,k⟩,fun k=>k.2⟩
 ·rw[bndS_r]
  congr 1
  rw[eq_comm,decide_eq_false_iff_not]
  exact fun k=>h k.1
theorem r_bestmay(l:List KpD) (count:Int) (most:Bool) (hl:l.length<=9223372036854775807):q32_May (l,count,most,())=some (decide (KeptOk l count most)):=by
 unfold q32_May
 dsimp only
 rw[all_as (∀ i,i<l.length->KStep most l i) l.length (fun i=>KStep most l i) _ (.inr false) (.inl ()) Iff.rfl]
 ·rw[bndS_ite]
  by_cases h:∀ i,i<l.length->KStep most l i
  ·rw[if_pos h]
   congr 1
   rw[decide_eq_decide]
   exact⟨fun k=>⟨h,k⟩,fun k=>k.2⟩
  ·rw[if_neg h]
   congr 1
   rw[eq_comm,decide_eq_false_iff_not]
   exact fun k=>h k.1
 ·intro i hi _
  dsimp only
  rw[lt_true hi,cnd_t,all_as (∀ k,k<i->(nth zKp l k).1≠(nth zKp l i).1) i (fun k=>(nth zKp l k).1≠(nth zKp l i).1) _ (.inr (.inr (.inr false))) (.inl ()) Iff.rfl]
  ·rw[bndS_ite,wr_succ hi hl]
   by_cases hd:∀ k,k<i->(nth zKp l k).1≠(nth zKp l i).1
   ·rw[if_pos hd]
    by_cases h0:0<i
    ·rw[dT (by omega:(i:Int)>0),cnd_t,ati_d zKp hi,bnd_mk,ati_pred zKp h0 hi hl,bnd_mk,r_ahead,bnd_mk]
     by_cases ha:AheadB most (nth zKp l i) (nth zKp l (i-1))
     ·rw[dT ha,if_neg (fun k=>(k.2 h0).1 ha)];rfl
     ·rw[dF ha,Bool.not_false,cnd_t,bnd_mk,bnd_mk]
      by_cases hv:(nth zKp l i).2.1=(nth zKp l (i-1)).2.1
      ·rw[dT hv,cnd_t,bnd_mk,bnd_mk]
       by_cases hs:(nth zKp l i).1<(nth zKp l (i-1)).1
       ·rw[dT hs,if_neg (fun k=>(k.2 h0).2 ⟨hv,hs⟩)];rfl
       ·rw[dF hs,if_pos ⟨hd,fun _=>⟨ha,fun k=>hs k.2⟩⟩];rfl
      ·rw[dF hv,if_pos ⟨hd,fun _=>⟨ha,fun k=>hv k.1⟩⟩];rfl
    ·rw[dF (by omega:¬ (i:Int)>0),if_pos ⟨hd,fun h=>(h0 h).elim⟩];rfl
   ·rw[if_neg hd,if_neg (fun k=>hd k.1)]
  ·intro k hk _
   dsimp only
   rw[lt_true hk,cnd_t,ati_d zKp (by omega),bnd_mk,ati_d zKp hi,bnd_mk,wr_succ hk (by omega)]
   by_cases he:(nth zKp l k).1=(nth zKp l i).1
   ·rw[dT he,if_neg (fun k=>k he)];rfl
   ·rw[dF he,if_pos he];rfl
  ·intro _
   dsimp only
   rw[lt_false,cnd_f]
   rfl
 ·intro _
  dsimp only
  rw[lt_false,cnd_f]
  rfl
end Go.Proofs.YtmomjjgokeffnaaGreat.F
namespace Go.Proofs.YtmomjjgokeffnaaGreat.F
open Go.VX
open Classical
def looksF(eval:Int) (n:Nat):Int:=if eval<=0 then 0 else(n:Int) / eval
theorem looked_form(e:Nat) (he:0<e) (n:Nat):(n+1) / e=n / e+if n % e=e-1 then 1 else 0:=by
 rw[div_up n e he]
 congr 1
 have hr:=Nat.mod_lt n he
 have h:(n+1) % e=0↔n % e=e-1:=by
  rw[Nat.add_mod]
  by_cases h1:e=1
  ·subst h1;simp [Nat.mod_one]
  ·rw[Nat.mod_eq_of_lt (by omega:1<e)]
   by_cases h2:n % e+1=e
   ·rw[h2,Nat.mod_self];omega
   ·rw[Nat.mod_eq_of_lt (by omega)];omega
 by_cases k:(n+1) % e=0
 ·rw[if_pos k,if_pos (h.1 k)]
 ·rw[if_neg k,if_neg (fun x=>k (h.2 x))]
def LookedP(eval i:Int):Prop:=0<eval/\i % eval=eval-1
theorem r_looked(p) (eval i:Int) (hp:p.2.2.2.2.1=eval) (i0:0<=i) (e1:eval<=9223372036854775807):q37_Looked (p,i,())=some (decide (LookedP eval i)):=by
 subst hp
 unfold q37_Looked
 dsimp only
 by_cases k1:p.2.2.2.2.1>0
 ·have hr:remI i p.2.2.2.2.1=some (i % p.2.2.2.2.1):=by
   unfold remI
   rw[if_neg (by omega),Int.tmod_eq_emod_of_nonneg i0]
  rw[dT k1,cnd_t,hr,bnd_mk,bnd_mk,wr_id (by omega) (by omega)]
  exact congrArg some (decide_eq_decide.2 ⟨fun h=>⟨k1,h⟩,fun h=>h.2⟩)
 ·rw[dF k1,cnd_f,bnd_mk,dF (fun h=>k1 h.1)]
theorem looks_nn(eval:Int) (n:Nat):0<=looksF eval n/\looksF eval n<=n:=by
 unfold looksF
 split
 ·omega
 ·rename_i h
  exact⟨Int.ediv_nonneg (by omega) (by omega),Int.ediv_le_self _ (by omega)⟩
theorem looks_up(eval:Int) (n:Nat):looksF eval (n+1)=looksF eval n+if LookedP eval n then 1 else 0:=by
 unfold looksF
 by_cases h:eval<=0
 ·rw[if_pos h,if_pos h,if_neg (fun k=>by have:=k.1;omega)];rfl
 ·rw[if_neg h,if_neg h]
  obtain⟨e,rfl⟩:∃ k:Nat,eval=k:=⟨eval.toNat,by omega⟩
  have h1:((n+1:Nat):Int) / (e:Int)=(((n+1) / e:Nat):Int):=rfl
  have h2:(n:Int) / (e:Int)=((n / e:Nat):Int):=rfl
  have h3:(n:Int) % (e:Int)=((n % e:Nat):Int):=rfl
  rw[h1,h2,looked_form e (by omega) n]
  by_cases k:n % e=e-1
  ·rw[if_pos k,if_pos ⟨by omega,by rw[h3,k];omega⟩];rfl
  ·rw[if_neg k,if_neg (fun x=>k (by have:=x.2;rw[h3] at this;omega))];rfl
theorem r_looks(p) (eval n:Int) (hp:p.2.2.2.2.1=eval) (hn:n<=1099511627776) (e1:eval<=9223372036854775807):q37_Looks (p,n,())=some (looksF eval n.toNat):=by
 unfold q37_Looks
 dsimp only
 obtain⟨r,e,h⟩:=loop_rule (ρ:=Int×Unit) (f:=(fun(s2:Int×Int×Unit)=>cnd (decide (s2.2.1<n)) (bnd (q37_Looked (p,s2.2.1,())) fun r3=>bnd (cnd r3 (some (wr .i64 (s2.1+1),())) (some (s2.1,()))) fun j4=>inlE (j4.1,wr .i64 (s2.2.1+1),())) (inrE (some (s2.1,())))))
  (fun s=>0<=s.2.1/\s.2.1.toNat<=n.toNat/\s.1=looksF eval s.2.1.toNat) (fun s=>n.toNat-s.2.1.toNat) (fun r=>r.1=looksF eval n.toNat) (fun s ⟨i0,i1,i2⟩=>by
   obtain⟨a,i,_⟩:=s
   dsimp only at *
   obtain⟨k,rfl⟩:∃ k:Nat,i=k:=⟨i.toNat,by omega⟩
   rw[Int.toNat_natCast] at i1 i2
   subst i2
   have hb:=looks_nn eval k
   by_cases hk:(k:Int)<n
   ·left
    rw[dT hk,cnd_t,r_looked p eval k hp (by omega) e1,bnd_mk,wr_id (x:=(k:Int)+1) (by omega) (by omega),wr_id (x:=looksF eval k+1) (by omega) (by omega)]
    refine⟨(looksF eval (k+1),(k:Int)+1,()),?_,⟨by dsimp only;omega,by dsimp only;omega,by dsimp only;rw[show((k:Int)+1).toNat=k+1 by omega]⟩,by dsimp only;omega⟩
    rw[looks_up]
    by_cases hs:LookedP eval (k:Int)
    ·rw[dT hs,if_pos hs];rfl
    ·rw[dF hs,if_neg hs,Int.add_zero];rfl
   ·right
    rw[dF hk,cnd_f]
    have:k=n.toNat:=by omega
    exact⟨_,rfl,by rw[this]⟩) (0,0,()) ⟨by dsimp only;omega,by dsimp only;simp,by dsimp only;unfold looksF;split<;>simp⟩
 rw[e,bnd_mk,h]
def TakenS(s:StateD):Int:=if s.2.1=3 then s.1-1 else s.1
theorem p_taken(s:StateD) (h0:-9223372036854775807<=s.1) (h1:s.1<=9223372036854775807):state_Taken (s,())=some (TakenS s):=by
 unfold state_Taken TakenS
 dsimp only
 rw[wr_id (x:=s.1-1) (by omega) (by omega)]
 by_cases h:s.2.1=3
 ·rw[dT h,if_pos h];rfl
 ·rw[dF h,if_neg h];rfl
def WatchOk(w:WatchD) (looks:Int):Prop:=(w.1=false/\w.2.1=0/\w.2.2.1=0)\/(w.1=true/\0<=w.2.2.1/\w.2.2.1<=1099511627776/\w.2.2.1<looks)
theorem watch_eq(w:WatchD):eqT tWatch w (false,0,0,())=decide (w.1=false/\w.2.1=0/\w.2.2.1=0):=by
 obtain⟨a,b,c,_⟩:=w
 rw[Bool.eq_iff_iff,eqT_iff tWatch rfl,decide_eq_true_eq]
 simp
theorem p_swithin(n lo hi:Int):state_within (n,lo,hi,())=some (decide (lo<=n/\n<=hi)):=by
 unfold state_within
 dsimp only
 by_cases h1:lo<=n
 ·rw[dT (show n>=lo from h1),cnd_t,bnd_mk]
  exact congrArg some (decide_eq_decide.2 ⟨fun h=>⟨h1,h⟩,fun h=>h.2⟩)
 ·rw[dF (show ¬ n>=lo from h1),cnd_f,bnd_mk,dF (fun h=>h1 h.1)]
theorem p_watch(w:WatchD) (looks:Int) (h0:0<=looks) (h1:looks<=9223372036854775807):state_watch (w,looks,())=some (decide (WatchOk w looks)):=by
 unfold state_watch
 dsimp only
 rw[show eqT (.pr .bool (.pr (.int .i64) (.pr (.int .i64) .unit))) w (false,0,0,())=_ from watch_eq w,wr_id (x:=looks-1) (by omega) (by omega),p_swithin]
 cases hw:w.1 with
 | false =>
  rw[Bool.not_false,cnd_t]
  exact congrArg some (decide_eq_decide.2 (by unfold WatchOk;simp [hw]))
 | true =>
  rw[Bool.not_true,cnd_f,bnd_mk]
  refine congrArg some (decide_eq_decide.2 ?_)
  unfold WatchOk
  simp only[hw,minL,Bool.true_eq_false,false_and,false_or,true_and]
  by_cases hm:1099511627776<looks-1
  ·rw[if_pos hm];omega
  ·rw[if_neg hm];omega
theorem r_watch(w:WatchD) (looks:Int):q37_watch (w,looks,())=some (decide (WatchOk w looks)):=by
 unfold q37_watch WatchOk
 dsimp only
 cases hw:w.1 with
 | false =>
  rw[Bool.not_false,cnd_t]
  simp only[bnd_mk,cnd_if,ite_some]
  congr 1
  rw[Bool.eq_iff_iff]
  simp
 | true =>
  rw[Bool.not_true,cnd_f]
  simp only[bnd_mk,cnd_if,ite_some]
  congr 1
  rw[Bool.eq_iff_iff]
  simp
  omega
def CutStOk(c:CutSD):Prop:=¬ (c.1.1=false/\¬ (c.1.2.1=0/\c.1.2.2.1=0))/\0<=c.2.1/\c.2.1<=1099511627776/\0<=c.1.2.2.1/\c.1.2.2.1<=1099511627776/\0<=c.2.2.1/\c.2.2.1<=4294967296
theorem p_platcheck(c:CutSD):plat_Check (c,())=some (decide (CutStOk c)):=by
 unfold plat_Check plat_count CutStOk
 dsimp only
 rw[show eqT (.pr .bool (.pr (.int .i64) (.pr (.int .i64) .unit))) c.1 (false,0,0,())=_ from watch_eq c.1]
 simp only[bnd_mk,cnd_if,ite_some]
 congr 1
 rw[Bool.eq_iff_iff]
 cases c.1.1
 ·by_cases h:c.1.2.1=0/\c.1.2.2.1=0
  ·simp [h]
   omega
  ·simp [h]
 ·simp
  omega
theorem r_platmay(c:CutSD):q31_May (c,())=some (decide (CutStOk c)):=by
 unfold q31_May CutStOk
 dsimp only
 simp only[bnd_mk,cnd_if,ite_some]
 congr 1
 rw[Bool.eq_iff_iff]
 cases c.1.1
 ·simp
  omega
 ·simp
  omega
end Go.Proofs.YtmomjjgokeffnaaGreat.F
namespace Go.Proofs.YtmomjjgokeffnaaGreat.F
open Go.VX
open Classical
section
variable (a0 a1 a2 a3 a4:Int) (sp:List SpanD) (fz:List (List Bool)) (tr:List TrackD) (st:StopD) (cu:CutD) (ke:KeepD) (em:Bool×Int×Unit) (o1 o2 o3 sf se:Int) (s:StateD)
def OutP:Prop:=o1≠-1/\st.2.2.2.1<=s.2.2.2.1.2.2.1
def StatusOk:Prop:=(s.2.1=0/\0<=s.1/\s.1<a0/\s.2.2.1=0/\¬ OutP st o1 s)\/((1<=s.1/\s.1<=a0/\s.2.2.1=s.1-1)/\((s.2.1=1/\s.1=a0/\¬ OutP st o1 s)\/(s.2.1=2/\OutP st o1 s/\s.1 % a4=0)\/(s.2.1=3/\¬ OutP st o1 s/\0<se/\sf<s.1-1/\(s.1-1-sf) % se=0)))
theorem out_ok(h:StopOk a2 a4 o1 st):(cnd (decide (o1>=0)) (bnd (early_Out (s.2.2.2.1,st.2.2.2.1,())) fun r1=>some r1) (some false))=some (decide (OutP st o1 s)):=by
 unfold early_Out
 dsimp only
 have hc:o1=-1\/(o1>=0/\st.2.2.2.1>=1):=by
  unfold StopOk SeenOk at h
  omega
 rcases hc with hc | ⟨h1,h2⟩
 ·rw[dF (by omega:¬ o1>=0),cnd_f,dF (fun k:OutP st o1 s=>k.1 hc)]
 ·rw[dT h1,dT h2,cnd_t,cnd_t]
  simp only[bnd_mk]
  exact congrArg some (decide_eq_decide.2 ⟨fun k=>⟨by omega,k⟩,fun k=>k.2⟩)
theorem p_failed(ha:AvgOk a0 sf se em) (h0:1<=s.1) (h1:s.1<=1000000) (hh:a0<=1000000):state_failed ((a0,a1,a2,a3,a4,sp,fz,tr,st,cu,ke,em,o1,o2,o3,sf,se,()),s,())=some (decide (0<se/\sf<s.1-1/\(s.1-1-sf) % se=0)):=by
 have hr:0<=sf/\sf<=1000000:=by
  unfold AvgOk at ha
  omega
 unfold state_failed
 dsimp only
 rw[wr_id (x:=s.1-1) (by omega) (by omega)]
 by_cases k1:se>0
 ·by_cases k2:s.1-1>sf
  ·have hm:remI (s.1-1-sf) se=some ((s.1-1-sf) % se):=by
    unfold remI
    rw[if_neg (by omega),Int.tmod_eq_emod_of_nonneg (by omega)]
   rw[dT k1,dT k2,cnd_t,bnd_mk,cnd_t,wr_id (x:=s.1-1-sf) (by omega) (by omega),hm,bnd_mk,bnd_mk]
   exact congrArg some (decide_eq_decide.2 ⟨fun k=>⟨k1,k2,k⟩,fun k=>k.2.2⟩)
  ·rw[dT k1,dF k2,dF (fun k:0<se/\sf<s.1-1/\(s.1-1-sf) % se=0=>k2 k.2.1)];rfl
 ·rw[dF k1,dF (fun k:0<se/\sf<s.1-1/\(s.1-1-sf) % se=0=>k1 k.1)];rfl
theorem p_status(hp:PlanOk a0 a1 a2 a3 a4 sp fz tr st cu ke em o1 o2 o3 sf se):state_status ((a0,a1,a2,a3,a4,sp,fz,tr,st,cu,ke,em,o1,o2,o3,sf,se,()),s,())=some (decide (StatusOk a0 a4 st o1 sf se s)):=by
 obtain⟨hh,_,_,_,hst,_,_,hav⟩:=hp
 unfold HeadOk at hh
 unfold state_status
 dsimp only
 rw[out_ok a2 a4 st o1 s hst,p_swithin,bnd_mk,bnd_mk,p_swithin,wr_id (x:=a0-1) (by omega) (by omega)]
 have hE:(cnd (decide (1<=s.1/\s.1<=a0)) (some (decide (s.2.2.1=(wr .i64 (s.1-1))))) (some false))=some (decide (1<=s.1/\s.1<=a0/\s.2.2.1=s.1-1)):=by
  by_cases h:1<=s.1/\s.1<=a0
  ·rw[dT h,cnd_t,wr_id (x:=s.1-1) (by omega) (by omega)]
   exact congrArg some (decide_eq_decide.2 ⟨fun k=>⟨h.1,h.2,k⟩,fun k=>k.2.2⟩)
  ·rw[dF h,cnd_f,dF (fun k:1<=s.1/\s.1<=a0/\s.2.2.1=s.1-1=>h ⟨k.1,k.2.1⟩)]
 rw[hE,bnd_mk]
 have fin:∀ (b:Bool) (Q:Prop),(b=true↔Q)->some b=some (decide Q):=fun b Q h=>by
  congr 1
  rw[Bool.eq_iff_iff,h,decide_eq_true_eq]
 by_cases k0:s.2.1=0
 ·rw[dT k0,cnd_t]
  simp only[bnd_mk,cnd_some_and]
  apply fin
  unfold StatusOk
  simp only[Bool.and_eq_true,decide_eq_true_eq,Bool.not_eq_true',decide_eq_false_iff_not]
  constructor
  ·rintro⟨⟨h1,h2⟩,h3⟩;exact .inl ⟨k0,by omega,by omega,h2,h3⟩
  ·rintro(⟨_,h1,h2,h3,h4⟩ | ⟨_,h | h | h⟩)
   ·exact⟨⟨by omega,h3⟩,h4⟩
   ·omega
   ·omega
   ·omega
 rw[dF k0,cnd_f]
 by_cases k1:s.2.1=1
 ·rw[dT k1,cnd_t]
  simp only[bnd_mk,cnd_some_and]
  apply fin
  unfold StatusOk
  simp only[Bool.and_eq_true,decide_eq_true_eq,Bool.not_eq_true',decide_eq_false_iff_not]
  constructor
  ·rintro⟨⟨h1,h2⟩,h3⟩;exact .inr ⟨h1,.inl ⟨k1,h2,h3⟩⟩
  ·rintro(⟨h,_⟩ | ⟨h1,h | h | h⟩)
   ·omega
   ·exact⟨⟨h1,h.2.1⟩,h.2.2⟩
   ·omega
   ·omega
 rw[dF k1,cnd_f]
 by_cases k2:s.2.1=2
 ·rw[dT k2,cnd_t]
  by_cases hE:1<=s.1/\s.1<=a0/\s.2.2.1=s.1-1
  ·by_cases ho:OutP st o1 s
   ·have h4:0<a4:=by
     unfold StopOk SeenOk at hst
     have:=ho.1
     omega
    have hm:remI s.1 a4=some (s.1 % a4):=by
     unfold remI
     rw[if_neg (by omega),Int.tmod_eq_emod_of_nonneg (by omega)]
    rw[dT hE,dT ho,cnd_t,bnd_mk,cnd_t,hm,bnd_mk,bnd_mk]
    apply fin
    unfold StatusOk
    rw[decide_eq_true_eq]
    constructor
    ·intro h;exact .inr ⟨hE,.inr (.inl ⟨k2,ho,h⟩)⟩
    ·rintro(⟨h,_⟩ | ⟨_,h | h | h⟩)
     ·omega
     ·omega
     ·exact h.2.2
     ·omega
   ·rw[dF ho,dF (fun k:StatusOk a0 a4 st o1 sf se s=>by
     unfold StatusOk at k
     rcases k with⟨h,_⟩ | ⟨_,h | h | h⟩
     ·omega
     ·omega
     ·exact ho h.2.1
     ·omega)]
    cases decide (1<=s.1/\s.1<=a0/\s.2.2.1=s.1-1)<;>rfl
  ·rw[dF hE,dF (fun k:StatusOk a0 a4 st o1 sf se s=>by
     unfold StatusOk at k
     rcases k with⟨h,_⟩ | ⟨h,_⟩
     ·omega
     ·exact hE h)]
   rfl
 rw[dF k2,cnd_f]
 by_cases k3:s.2.1=3
 ·rw[dT k3,cnd_t]
  by_cases hE:1<=s.1/\s.1<=a0/\s.2.2.1=s.1-1
  ·by_cases ho:OutP st o1 s
   ·rw[dT hE,dT ho,dF (fun k:StatusOk a0 a4 st o1 sf se s=>by
     unfold StatusOk at k
     rcases k with⟨h,_⟩ | ⟨_,h | h | h⟩
     ·omega
     ·omega
     ·omega
     ·exact h.2.1 ho)]
    rfl
   ·rw[dT hE,dF ho,cnd_t,bnd_mk,Bool.not_false,cnd_t,p_failed a0 a1 a2 a3 a4 sp fz tr st cu ke em o1 o2 o3 sf se s hav hE.1 (by omega) (by omega),bnd_mk,bnd_mk]
    refine congrArg some (decide_eq_decide.2 ?_)
    unfold StatusOk
    constructor
    ·intro h;exact .inr ⟨hE,.inr (.inr ⟨k3,ho,h⟩)⟩
    ·rintro(⟨h,_⟩ | ⟨_,h | h | h⟩)
     ·omega
     ·omega
     ·omega
     ·exact h.2.2
  ·rw[dF hE,dF (fun k:StatusOk a0 a4 st o1 sf se s=>by
     unfold StatusOk at k
     rcases k with⟨h,_⟩ | ⟨h,_⟩
     ·omega
     ·exact hE h)]
   rfl
 ·rw[dF k3,cnd_f,dF (fun k:StatusOk a0 a4 st o1 sf se s=>by
     unfold StatusOk at k
     omega)]
theorem r_status(hp:PlanOk a0 a1 a2 a3 a4 sp fz tr st cu ke em o1 o2 o3 sf se) (g0:0<=s.1) (g1:s.1<=a0):∃ q,q37_status ((a0,a1,a2,a3,a4,sp,fz,tr,st,cu,ke,em,o1,o2,o3,sf,se,()),s,())=some q/\(q=true↔StatusOk a0 a4 st o1 sf se s):=by
 obtain⟨hh,_,_,_,hst,_,_,hav⟩:=hp
 unfold HeadOk at hh
 have hsf:0<=sf/\sf<=1000000/\se<=1099511627776/\0<=se:=by
  unfold AvgOk at hav
  omega
 unfold q37_status
 dsimp only
 have hO:(cnd (!decide (o1=(-1))) (some (decide (s.2.2.2.1.2.2.1>=st.2.2.2.1))) (some false))=some (decide (OutP st o1 s)):=by
  by_cases h:o1=-1
  ·rw[dT h,dF (fun k:OutP st o1 s=>k.1 h)];rfl
  ·rw[dF h,Bool.not_false,cnd_t]
   exact congrArg some (decide_eq_decide.2 ⟨fun k=>⟨h,k⟩,fun k=>k.2⟩)
 rw[hO,bnd_mk]
 by_cases k0:s.2.1=0
 ·rw[dT k0,cnd_t]
  simp only[bnd_mk,cnd_some_and]
  refine⟨_,rfl,?_⟩
  unfold StatusOk
  simp only[Bool.and_eq_true,decide_eq_true_eq,Bool.not_eq_true',decide_eq_false_iff_not]
  constructor
  ·rintro⟨⟨h1,h2⟩,h3⟩;exact .inl ⟨k0,by omega,by omega,h2,h3⟩
  ·rintro(⟨_,h1,h2,h3,h4⟩ | ⟨_,h | h | h⟩)
   ·exact⟨⟨by omega,h3⟩,h4⟩
   ·omega
   ·omega
   ·omega
 rw[dF k0,cnd_f]
 by_cases hE:1<=s.1/\s.1<=a0/\s.2.2.1=s.1-1
 ·rw[wr_id (x:=s.1-1) (by omega) (by omega),dF (by omega:¬ s.1<1),dF (by omega:¬ s.1>a0),dT hE.2.2]
  simp only[bnd_mk,cnd_t,cnd_f,Bool.not_true,Bool.not_false]
  by_cases k1:s.2.1=1
  ·rw[dT k1,dF (by omega:¬ s.2.1=2),dF (by omega:¬ s.2.1=3)]
   simp only[bnd_mk,cnd_t,cnd_f]
   refine⟨decide (s.1=a0)&&!decide (OutP st o1 s),?_,?_⟩
   ·cases decide (s.1=a0)<;>cases decide (OutP st o1 s)<;>rfl
   ·unfold StatusOk
    simp only[Bool.and_eq_true,decide_eq_true_eq,Bool.not_eq_true',decide_eq_false_iff_not]
    constructor
    ·rintro⟨h2,h3⟩;exact .inr ⟨hE,.inl ⟨k1,h2,h3⟩⟩
    ·rintro(⟨h,_⟩ | ⟨h1,h | h | h⟩)
     ·omega
     ·exact h.2
     ·omega
     ·omega
  ·rw[dF k1]
   by_cases k2:s.2.1=2
   ·rw[dT k2,dF (by omega:¬ s.2.1=3)]
    simp only[bnd_mk,cnd_t,cnd_f,Bool.not_false]
    rw[hE.2.2,r_looked _ a4 (s.1-1) rfl (by omega) (by omega)]
    refine⟨decide (OutP st o1 s)&&decide (LookedP a4 (s.1-1)),?_,?_⟩
    ·cases decide (OutP st o1 s)<;>cases decide (LookedP a4 (s.1-1))<;>rfl
    ·have hl:0<a4->(LookedP a4 (s.1-1)↔s.1 % a4=0):=fun h4=>by
      obtain⟨n,hn⟩:∃ n:Nat,s.1=((n+1:Nat):Int):=⟨s.1.toNat-1,by omega⟩
      obtain⟨e,he⟩:∃ e:Nat,a4=(e:Int):=⟨a4.toNat,by omega⟩
      have h2:=looked_form e (by omega) n
      have h3:=div_up n e (by omega)
      have e1:((n+1:Nat):Int) % (e:Int)=(((n+1) % e:Nat):Int):=rfl
      have e2:(n:Int) % (e:Int)=((n % e:Nat):Int):=rfl
      unfold LookedP
      rw[hn,he,show((n+1:Nat):Int)-1=(n:Int) by omega,e1,e2]
      have hr:=Nat.mod_lt n (by omega:0<e)
      by_cases c1:(n+1) % e=0<;>by_cases c2:n % e=e-1
      ·rw[c1,c2];omega
      ·rw[if_pos c1] at h3;rw[if_neg c2] at h2;omega
      ·rw[if_neg c1] at h3;rw[if_pos c2] at h2;omega
      ·constructor
       ·intro h;exfalso;apply c2;omega
       ·intro h;exfalso;apply c1;omega
     unfold StatusOk
     simp only[Bool.and_eq_true,decide_eq_true_eq]
     constructor
     ·rintro⟨h2,h3⟩;exact .inr ⟨hE,.inr (.inl ⟨k2,h2,(hl h3.1).1 h3⟩)⟩
     ·rintro(⟨h,_⟩ | ⟨h1,h | h | h⟩)
      ·omega
      ·omega
      ·refine⟨h.2.1,(hl ?_).2 h.2.2⟩
       unfold StopOk SeenOk at hst
       have:=h.2.1.1
       omega
      ·omega
   ·rw[dF k2]
    by_cases k3:s.2.1=3
    ·rw[dT k3]
     simp only[bnd_mk,cnd_t,cnd_f,Bool.not_false]
     rw[hE.2.2,r_swa _ sf se (s.1-1) rfl rfl (by omega) (by omega) (by omega) (by omega) (by omega),r_sums _ sf se (s.1-1) rfl rfl (by omega) (by omega) (by omega) (by omega)]
     refine⟨!decide (OutP st o1 s)&&(decide (SwaP sf se (s.1-1))&&decide (sumsF sf se (s.1-1).toNat>0)),?_,?_⟩
     ·simp only[bnd_mk]
      generalize decide (OutP st o1 s)=x
      generalize decide (SwaP sf se (s.1-1))=y
      generalize decide (sumsF sf se (s.1-1).toNat>0)=z
      cases x<;>cases y<;>cases z<;>rfl
     ·have hl:(SwaP sf se (s.1-1)/\sumsF sf se (s.1-1).toNat>0)↔(0<se/\sf<s.1-1/\(s.1-1-sf) % se=0):=by
       unfold SwaP
       by_cases hse:0<se
       ·obtain⟨f,rfl⟩:∃ k:Nat,sf=k:=⟨sf.toNat,by omega⟩
        obtain⟨e,rfl⟩:∃ k:Nat,se=k:=⟨se.toNat,by omega⟩
        rw[sums_form f e (by omega)]
        by_cases hle:(s.1-1).toNat<=f
        ·rw[if_pos hle]
         constructor
         ·intro h;omega
         ·intro h;omega
        ·rw[if_neg hle]
         constructor
         ·intro h;exact⟨hse,by omega,h.1.2.2⟩
         ·intro h
          refine⟨⟨hse,by omega,h.2.2⟩,?_⟩
          generalize (s.1-1).toNat-1-f=m
          have hd:(0:Int)<=(m:Int) / (e:Int):=Int.ediv_nonneg (by omega) (by omega)
          omega
       ·constructor
        ·intro h;exact(hse h.1.1).elim
        ·intro h;exact(hse h.1).elim
      unfold StatusOk
      simp only[Bool.and_eq_true,decide_eq_true_eq,Bool.not_eq_true',decide_eq_false_iff_not]
      rw[hl]
      constructor
      ·rintro⟨h2,h3⟩;exact .inr ⟨hE,.inr (.inr ⟨k3,h2,h3⟩)⟩
      ·rintro(⟨h,_⟩ | ⟨h1,h | h | h⟩)
       ·omega
       ·omega
       ·omega
       ·exact⟨h.2.1,h.2.2⟩
    ·rw[dF k3]
     refine⟨false,rfl,⟨fun h=>(Bool.false_ne_true h).elim,fun k=>?_⟩⟩
     unfold StatusOk at k
     omega
 ·have hno:¬ StatusOk a0 a4 st o1 sf se s:=fun k=>by
   unfold StatusOk at k
   rcases k with⟨h,_⟩ | ⟨h,_⟩
   ·omega
   ·exact hE h
  refine⟨false,?_,⟨fun h=>(Bool.false_ne_true h).elim,fun k=>(hno k).elim⟩⟩
  by_cases c1:s.1<1
  ·rw[dT c1];rfl
  by_cases c2:s.1>a0
  ·rw[dF c1,dT c2];rfl
  rw[dF c1,dF c2,wr_id (x:=s.1-1) (by omega) (by omega),dF (fun h:s.2.2.1=s.1-1=>hE ⟨by omega,by omega,h⟩)]
  rfl
end
end Go.Proofs.YtmomjjgokeffnaaGreat.F
namespace Go.Proofs.YtmomjjgokeffnaaGreat.F
open Go.VX
open Classical
theorem looked_next(eval i:Int) (h:0<eval):(i+1) % eval=0↔LookedP eval i:=by
 unfold LookedP
 have h1:=Int.emod_add_mul_ediv i eval
 have h2:=Int.emod_nonneg i (by omega:eval≠0)
 have h3:=Int.emod_lt_of_pos i h
 by_cases k:i % eval=eval-1
 ·have e:i+1=eval*(i / eval+1):=by rw[Int.mul_add];omega
  rw[e,Int.mul_emod_right]
  exact⟨fun _=>⟨h,k⟩,fun _=>rfl⟩
 ·have e:i+1=(i % eval+1)+eval*(i / eval):=by omega
  have f:(i+1) % eval=i % eval+1:=by
   conv=>lhs;rw[e]
   rw[Int.add_mul_emod_self_left,Int.emod_eq_of_lt (by omega) (by omega)]
  rw[f]
  exact⟨fun h=>by omega,fun h=>(k h.2).elim⟩
theorem kcontains(l:List KpD) (P:KpD->Prop) (f:((Int×(Int×Unit))×Unit)->Option Bool) (hl:l.length<=9223372036854775807) (hf:∀ v,v∈l->f (v,())=some (decide (P v))) :
  slices_ContainsFunc_Kept (l,f,())=some (decide (∃ i,i<l.length/\P (nth zKp l i))):=by
 unfold slices_ContainsFunc_Kept slices_IndexFunc_Kept
 dsimp only
 obtain⟨r,e,h⟩:=loop_rule (ρ:=Unit ⊕ Int) (f:=(fun(s2:Int×Unit)=>cnd (decide (s2.1<(l.length:Int))) (bnd (ati l s2.1) fun v3=>bnd (f (v3,())) fun r4=>cnd r4 (inrE (inrE (some s2.1))) (inlE (wr .i64 (s2.1+1),()))) (inrE (inlE (())))))
  (fun s=>0<=s.1/\s.1<=l.length/\∀ i:Nat,(i:Int)<s.1->¬ P (nth zKp l i)) (fun s=>l.length-s.1.toNat)
  (fun r=>(r=.inl ()/\∀ i,i<l.length->¬ P (nth zKp l i))\/(∃ i:Nat,r=.inr (i:Int)/\i<l.length/\P (nth zKp l i))) (fun s ⟨i0,i1,i2⟩=>by
   obtain⟨i,_⟩:=s
   dsimp only at i0 i1 i2 ⊢
   obtain⟨k,rfl⟩:∃ k:Nat,i=k:=⟨i.toNat,by omega⟩
   by_cases hk:k<l.length
   ·rw[lt_true hk,cnd_t,ati_d zKp hk,bnd_mk,hf _ (nth_mem hk),bnd_mk,wr_succ hk hl]
    by_cases hp:P (nth zKp l k)
    ·right
     rw[dT hp]
     exact⟨.inr (k:Int),rfl,.inr ⟨k,rfl,hk,hp⟩⟩
    ·left
     rw[dF hp]
     refine⟨_,rfl,⟨by dsimp only;omega,by dsimp only;omega,fun j hj=>?_⟩,by dsimp only;omega⟩
     dsimp only at hj
     by_cases hjk:j=k
     ·subst hjk;exact hp
     ·exact i2 j (by omega)
   ·right
    have hkn:k=l.length:=by omega
    subst hkn
    rw[lt_false,cnd_f]
    exact⟨_,rfl,.inl ⟨rfl,fun i hi=>i2 i (by omega)⟩⟩) (0,()) ⟨by dsimp only;omega,by dsimp only;omega,fun i hi=>by dsimp only at hi;omega⟩
 rw[e]
 rcases h with⟨rfl,h⟩ | ⟨i,rfl,hi,hp⟩
 ·rw[bndS_l,bnd_mk,dF (show ¬ (-1:Int)>=0 by omega),dF (fun⟨i,hi,hp⟩=>h i hi hp)]
 ·rw[bndS_r,bnd_mk,dT (by omega:(i:Int)>=0),dT ⟨i,hi,hp⟩]
section
variable (a0 a1 a2 a3 a4:Int) (sp:List SpanD) (fz:List (List Bool)) (tr:List TrackD) (st:StopD) (cu:CutD) (ke:KeepD) (em:Bool×Int×Unit) (o1 o2 o3 sf se:Int) (s:StateD)
def LooksS:Int:=looksF a4 (TakenS s).toNat
def StopSt:Prop:=(o1=-1/\eqT (.pr .bool (.pr (.int .i64) (.pr (.int .i64) .unit))) s.2.2.2.1 (false,0,0,())=true)\/(o1≠-1/\WatchOk s.2.2.2.1 (LooksS a4 s))
def CutSt:Prop:=(o2=-1/\eqT (.pr (.pr .bool (.pr (.int .i64) (.pr (.int .i64) .unit))) (.pr (.int .i64) (.pr (.int .i64) .unit))) s.2.2.2.2.1 ((false,0,0,()),0,4294967296,())=true)\/(o2≠-1/\CutStOk s.2.2.2.2.1/\WatchOk s.2.2.2.2.1.1 (LooksS a4 s)/\s.2.2.2.2.1.1.2.2.1<cu.2.2.2.2.1/\s.2.2.2.2.1.2.1<=cu.2.2.2.2.2.1)
def StepOkK(v:KpD):Prop:=0<=v.1/\v.1<TakenS s/\LookedP a4 v.1
def BadK(v:KpD):Prop:=¬ StepOkK a4 s v
def KeptSt:Prop:=(o3=-1/\s.2.2.2.2.2.1.length=0)\/(o3≠-1/\(s.2.2.2.2.2.1.length:Int)<=LooksS a4 s/\KeptOk s.2.2.2.2.2.1 ke.2.2.2.1 ke.2.2.1/\∀ i,i<s.2.2.2.2.2.1.length->StepOkK a4 s (nth zKp s.2.2.2.2.2.1 i))
def AvgSt:Prop:=(s.2.2.2.2.2.2.1.length:Int)=(if em.1=true/\0<TakenS s then a1 else 0)/\s.2.2.2.2.2.2.2.1.1=sumsF sf se (TakenS s).toNat/\(s.2.2.2.2.2.2.2.1.2.1.length:Int)=(if 0<sumsF sf se (TakenS s).toNat then a1 else 0)
def StateOk:Prop:=StatusOk a0 a4 st o1 sf se s/\StopSt a4 o1 s/\CutSt a4 cu o2 s/\KeptSt a4 ke o3 s/\AvgSt a1 em sf se s
theorem status_range(h:StatusOk a0 a4 st o1 sf se s):0<=s.1/\s.1<=a0/\0<=TakenS s/\TakenS s<=a0:=by
 unfold StatusOk at h
 unfold TakenS
 split<;>omega
theorem p_looks(h4:0<=a4) (t0:0<=TakenS s) (t1:TakenS s<=1000000) (s0:0<=s.1) (s1:s.1<=1000000):state_looks ((a0,a1,a2,a3,a4,sp,fz,tr,st,cu,ke,em,o1,o2,o3,sf,se,()),s,())=some (LooksS a4 s):=by
 unfold state_looks LooksS looksF
 dsimp only
 by_cases k:a4=0
 ·rw[dT k,cnd_t,if_pos (by omega)]
 ·rw[dF k,cnd_f,if_neg (by omega),p_taken s (by omega) (by omega),bnd_mk]
  unfold quoI
  have h1:0<=TakenS s / a4:=Int.ediv_nonneg t0 h4
  have h2:TakenS s / a4<=TakenS s:=Int.ediv_le_self _ t0
  rw[if_neg k,Int.tdiv_eq_ediv_of_nonneg t0,show IntKind.wrap .i64 (TakenS s / a4)=TakenS s / a4 from wr_id (by omega) (by omega),bnd_mk,Int.toNat_of_nonneg t0]
theorem looks_range(t1:TakenS s<=1000000):0<=LooksS a4 s/\LooksS a4 s<=1000000:=by
 unfold LooksS
 have:=looks_nn a4 (TakenS s).toNat
 omega
theorem p_ststop(hst:StopOk a2 a4 o1 st) (h4:0<=a4) (t0:0<=TakenS s) (t1:TakenS s<=1000000) (s0:0<=s.1) (s1:s.1<=1000000):state_stop ((a0,a1,a2,a3,a4,sp,fz,tr,st,cu,ke,em,o1,o2,o3,sf,se,()),s,())=some (decide (StopSt a4 o1 s)):=by
 unfold state_stop
 dsimp only
 have hc:o1=-1\/0<=o1:=by unfold StopOk SeenOk at hst;omega
 have hr:=looks_range a4 s t1
 rcases hc with k | k
 ·rw[dT (by omega:o1<0),cnd_t]
  congr 1
  rw[Bool.eq_iff_iff,decide_eq_true_eq]
  exact⟨fun h=>.inl ⟨k,h⟩,fun h=>by rcases h with h | h;exact h.2;exact(h.1 k).elim⟩
 ·rw[dF (by omega:¬ o1<0),cnd_f,p_looks a0 a1 a2 a3 a4 sp fz tr st cu ke em o1 o2 o3 sf se s h4 t0 t1 s0 s1,bnd_mk,p_watch _ _ hr.1 (by omega),bnd_mk]
  exact congrArg some (decide_eq_decide.2 ⟨fun h=>.inr ⟨by omega,h⟩,fun h=>by rcases h with h | h;omega;exact h.2⟩)
theorem p_stcut(hcu:CutOk a2 a4 o2 cu) (h4:0<=a4) (t0:0<=TakenS s) (t1:TakenS s<=1000000) (s0:0<=s.1) (s1:s.1<=1000000):state_cut ((a0,a1,a2,a3,a4,sp,fz,tr,st,cu,ke,em,o1,o2,o3,sf,se,()),s,())=some (decide (CutSt a4 cu o2 s)):=by
 unfold state_cut plat_New
 dsimp only
 have hc:o2=-1\/0<=o2:=by unfold CutOk SeenOk at hcu;omega
 have hr:=looks_range a4 s t1
 rcases hc with k | k
 ·rw[dT (by omega:o2<0),cnd_t,bnd_mk]
  congr 1
  rw[Bool.eq_iff_iff,decide_eq_true_eq]
  exact⟨fun h=>.inl ⟨k,h⟩,fun h=>by rcases h with h | h;exact h.2;exact(h.1 k).elim⟩
 ·rw[dF (by omega:¬ o2<0),cnd_f,p_looks a0 a1 a2 a3 a4 sp fz tr st cu ke em o1 o2 o3 sf se s h4 t0 t1 s0 s1,p_platcheck]
  simp only[bnd_mk,p_watch _ _ hr.1 (by omega:LooksS a4 s<=9223372036854775807),cnd_some_and]
  congr 1
  rw[Bool.eq_iff_iff]
  simp only[Bool.and_eq_true,decide_eq_true_eq]
  constructor
  ·rintro⟨⟨⟨h1,h2⟩,h3⟩,h5⟩;exact .inr ⟨by omega,h1,h2,h3,h5⟩
  ·rintro(h | ⟨_,h1,h2,h3,h5⟩)
   ·omega
   ·exact⟨⟨⟨h1,h2⟩,h3⟩,h5⟩
theorem p_stkept(hke:KeepOk a2 a4 o3 ke) (h4:0<=a4) (t0:0<=TakenS s) (t1:TakenS s<=1000000) (s0:0<=s.1) (s1:s.1<=1000000) (hl:s.2.2.2.2.2.1.length<=9223372036854775807) (hk:KRange s.2.2.2.2.2.1):state_kept ((a0,a1,a2,a3,a4,sp,fz,tr,st,cu,ke,em,o1,o2,o3,sf,se,()),s,())=some (decide (KeptSt a4 ke o3 s)):=by
 unfold state_kept
 dsimp only
 have hc:o3=-1\/(0<=o3/\0<a4):=by unfold KeepOk SeenOk at hke;omega
 rcases hc with k | ⟨k,k4⟩
 ·rw[dT (by omega:o3<0),cnd_t]
  exact congrArg some (decide_eq_decide.2 ⟨fun h=>.inl ⟨k,by omega⟩,fun h=>by rcases h with h | h;exact(by have:=h.2;omega);exact(h.1 k).elim⟩)
 ·rw[dF (by omega:¬ o3<0),cnd_f,p_looks a0 a1 a2 a3 a4 sp fz tr st cu ke em o1 o2 o3 sf se s h4 t0 t1 s0 s1,bnd_mk,p_bestcheck _ _ _ hl hk]
  by_cases k1:(s.2.2.2.2.2.1.length:Int)>LooksS a4 s
  ·rw[dT k1,dF (fun h:KeptSt a4 ke o3 s=>by
    rcases h with h | h
    ·omega
    ·have:=h.2.1;omega)]
   rfl
  rw[dF k1]
  by_cases k2:KeptOk s.2.2.2.2.2.1 ke.2.2.2.1 ke.2.2.1
  ·rw[dT k2]
   simp only[bnd_mk,cnd_t,cnd_f,Bool.not_true,Bool.not_false]
   rw[kcontains _ (BadK a4 s) _ hl ?_,bnd_mk]
   ·refine congrArg some ?_
    rw[Bool.eq_iff_iff,Bool.not_eq_true',decide_eq_false_iff_not,decide_eq_true_eq]
    constructor
    ·intro h
     refine .inr ⟨by omega,by omega,k2,fun i hi=>?_⟩
     exact Classical.byContradiction fun hn=>h ⟨i,hi,hn⟩
    ·rintro(h | ⟨_,_,_,h⟩) ⟨i,hi,hn⟩
     ·omega
     ·exact hn (h i hi)
   ·intro v hv
    dsimp only
    unfold state_kept_1
    dsimp only
    rw[p_taken s (by omega) (by omega),bnd_mk,wr_id (x:=TakenS s-1) (by omega) (by omega),p_swithin,bnd_mk]
    by_cases hw:0<=v.1/\v.1<=TakenS s-1
    ·have hm:remI (wr .i64 (v.1+1)) a4=some ((v.1+1) % a4):=by
      unfold remI
      rw[if_neg (by omega),wr_id (by omega) (by omega),Int.tmod_eq_emod_of_nonneg (by omega)]
     rw[dT hw,hm]
     simp only[bnd_mk,cnd_t,cnd_f,Bool.not_true,Bool.not_false]
     congr 1
     rw[Bool.eq_iff_iff,Bool.not_eq_true',decide_eq_false_iff_not,decide_eq_true_eq,looked_next a4 v.1 k4]
     unfold BadK StepOkK
     constructor
     ·intro h h2;exact h h2.2.2
     ·intro h h2;exact h ⟨hw.1,by omega,h2⟩
    ·rw[dF hw]
     simp only[bnd_mk,cnd_t,cnd_f,Bool.not_true,Bool.not_false]
     rw[dT (show BadK a4 s v from fun h:StepOkK a4 s v=>hw ⟨h.1,by have:=h.2.1;omega⟩)]
  ·rw[dF k2,dF (fun h:KeptSt a4 ke o3 s=>by
    rcases h with h | h
    ·omega
    ·exact k2 h.2.2.1)]
   rfl
theorem p_stavg(hav:AvgOk a0 sf se em) (ha:a0<=1000000) (t0:0<=TakenS s) (t1:TakenS s<=1000000) (s0:0<=s.1) (s1:s.1<=1000000):state_averages ((a0,a1,a2,a3,a4,sp,fz,tr,st,cu,ke,em,o1,o2,o3,sf,se,()),s,())=some (decide (AvgSt a1 em sf se s)):=by
 have hr:0<=sf/\sf<=1000000/\se<=1099511627776:=by
  unfold AvgOk at hav
  omega
 unfold state_averages state_long
 dsimp only
 rw[p_taken s (by omega) (by omega),bnd_mk,p_sums _ sf se (TakenS s) rfl rfl (by omega) (by omega) (by omega),if_neg (by omega)]
 unfold AvgSt
 simp only[bnd_mk]
 by_cases k1:em.1=true
 ·by_cases k2:0<TakenS s
  ·by_cases k3:0<sumsF sf se (TakenS s).toNat
   ·rw[k1,if_pos ⟨rfl,k2⟩,if_pos k3,dT (show TakenS s>0 from k2)]
    simp only[bnd_mk,cnd_t,cnd_f,dT (show sumsF sf se (TakenS s).toNat>0 from k3),cnd_some_and]
    congr 1
    rw[Bool.eq_iff_iff]
    simp only[Bool.and_eq_true,decide_eq_true_eq,and_assoc]
   ·rw[k1,if_pos ⟨rfl,k2⟩,if_neg k3,dT (show TakenS s>0 from k2)]
    simp only[bnd_mk,cnd_t,cnd_f,dF (show ¬ sumsF sf se (TakenS s).toNat>0 from k3),cnd_some_and]
    congr 1
    rw[Bool.eq_iff_iff]
    simp only[Bool.and_eq_true,decide_eq_true_eq,and_assoc]
  ·have k3:¬ 0<sumsF sf se (TakenS s).toNat:=by
    have:=sums_nn sf se (TakenS s).toNat
    omega
   rw[k1,if_neg (fun h=>k2 h.2),if_neg k3,dF (show ¬ TakenS s>0 from k2)]
   simp only[bnd_mk,cnd_t,cnd_f,dF (show ¬ sumsF sf se (TakenS s).toNat>0 from k3),cnd_some_and]
   congr 1
   rw[Bool.eq_iff_iff]
   simp only[Bool.and_eq_true,decide_eq_true_eq,and_assoc]
 ·have k1':em.1=false:=by simpa using k1
  by_cases k3:0<sumsF sf se (TakenS s).toNat
  ·rw[k1',if_neg (fun h=>Bool.false_ne_true h.1),if_pos k3]
   simp only[bnd_mk,cnd_t,cnd_f,dT (show sumsF sf se (TakenS s).toNat>0 from k3),cnd_some_and]
   congr 1
   rw[Bool.eq_iff_iff]
   simp only[Bool.and_eq_true,decide_eq_true_eq,and_assoc]
  ·rw[k1',if_neg (fun h=>Bool.false_ne_true h.1),if_neg k3]
   simp only[bnd_mk,cnd_t,cnd_f,dF (show ¬ sumsF sf se (TakenS s).toNat>0 from k3),cnd_some_and]
   congr 1
   rw[Bool.eq_iff_iff]
   simp only[Bool.and_eq_true,decide_eq_true_eq,and_assoc]
theorem p_state(hs:sp.length<=9223372036854775807) (hf:fz.length<=9223372036854775807) (ht:tr.length<=9223372036854775807) (hg:∀ t∈tr,t.2.2.1.length<=9223372036854775807) (hl:s.2.2.2.2.2.1.length<=9223372036854775807) (hk:KRange s.2.2.2.2.2.1) (hi:In64 s.1) :
  state_Check ((a0,a1,a2,a3,a4,sp,fz,tr,st,cu,ke,em,o1,o2,o3,sf,se,()),s,())=some (if PlanOk a0 a1 a2 a3 a4 sp fz tr st cu ke em o1 o2 o3 sf se/\StateOk a0 a1 a4 st cu ke em o1 o2 o3 sf se s then 0 else 1):=by
 unfold state_Check
 dsimp only
 rw[p_plan _ _ _ _ _ _ _ _ _ _ _ _ _ _ _ _ _ hs hf ht hg]
 by_cases hp:PlanOk a0 a1 a2 a3 a4 sp fz tr st cu ke em o1 o2 o3 sf se
 rotate_left
 ·rw[if_neg hp,if_neg (fun k=>hp k.1)];rfl
 rw[if_pos hp,p_status a0 a1 a2 a3 a4 sp fz tr st cu ke em o1 o2 o3 sf se s hp]
 by_cases h1:StatusOk a0 a4 st o1 sf se s
 rotate_left
 ·rw[dF h1,if_neg (fun k=>h1 k.2.1)];rfl
 obtain⟨hh,_,_,_,hst,hcu,hke,hav⟩:=id hp
 have hr:=status_range a0 a4 st o1 sf se s h1
 unfold HeadOk at hh
 rw[dT h1,p_ststop a0 a1 a2 a3 a4 sp fz tr st cu ke em o1 o2 o3 sf se s hst (by omega) (by omega) (by omega) (by omega) (by omega),p_stcut a0 a1 a2 a3 a4 sp fz tr st cu ke em o1 o2 o3 sf se s hcu (by omega) (by omega) (by omega) (by omega) (by omega),p_stkept a0 a1 a2 a3 a4 sp fz tr st cu ke em o1 o2 o3 sf se s hke (by omega) (by omega) (by omega) (by omega) (by omega) hl hk,p_stavg a0 a1 a2 a3 a4 sp fz tr st cu ke em o1 o2 o3 sf se s hav (by omega) (by omega) (by omega) (by omega) (by omega)]
 by_cases h2:StopSt a4 o1 s
 rotate_left
 ·rw[dF h2,if_neg (fun k=>h2 k.2.2.1)];rfl
 by_cases h3:CutSt a4 cu o2 s
 rotate_left
 ·rw[dT h2,dF h3,if_neg (fun k=>h3 k.2.2.2.1)];rfl
 by_cases h4:KeptSt a4 ke o3 s
 rotate_left
 ·rw[dT h2,dT h3,dF h4,if_neg (fun k=>h4 k.2.2.2.2.1)];rfl
 by_cases h5:AvgSt a1 em sf se s
 rotate_left
 ·rw[dT h2,dT h3,dT h4,dF h5,if_neg (fun k=>h5 k.2.2.2.2.2)];rfl
 rw[dT h2,dT h3,dT h4,dT h5,if_pos ⟨hp,h1,h2,h3,h4,h5⟩]
 rfl
theorem r_state(hp:PlanOk a0 a1 a2 a3 a4 sp fz tr st cu ke em o1 o2 o3 sf se) (hl:s.2.2.2.2.2.1.length<=9223372036854775807) (hi:In64 s.1) :
  ∃ q,q37_May ((a0,a1,a2,a3,a4,sp,fz,tr,st,cu,ke,em,o1,o2,o3,sf,se,()),s,())=some q/\(q=true↔StateOk a0 a1 a4 st cu ke em o1 o2 o3 sf se s):=by
 have no:∀ {x:Option Bool},x=some false->¬ StateOk a0 a1 a4 st cu ke em o1 o2 o3 sf se s->∃ q,x=some q/\(q=true↔StateOk a0 a1 a4 st cu ke em o1 o2 o3 sf se s):=fun e h=>⟨false,e,fun h=>(Bool.false_ne_true h).elim,fun k=>(h k).elim⟩
 unfold q37_May
 dsimp only
 by_cases g0:s.1<0
 ·rw[dT g0]
  exact no rfl (fun k=>by have:=status_range a0 a4 st o1 sf se s k.1;omega)
 by_cases g1:s.1>a0
 ·rw[dF g0,dT g1]
  exact no rfl (fun k=>by have:=status_range a0 a4 st o1 sf se s k.1;omega)
 obtain⟨q1,e1,f1⟩:=r_status a0 a1 a2 a3 a4 sp fz tr st cu ke em o1 o2 o3 sf se s hp (by omega) (by omega)
 rw[dF g0,dF g1,e1]
 cases q1 with
 | false=>exact no rfl (fun k=>Bool.false_ne_true (f1.2 k.1))
 | true =>
 have h1:=f1.1 rfl
 have hr:=status_range a0 a4 st o1 sf se s h1
 obtain⟨hh,_,_,_,hst,hcu,hke,hav⟩:=hp
 unfold HeadOk at hh
 have hsf:0<=sf/\sf<=1000000/\se<=1099511627776/\0<=se:=by
  unfold AvgOk at hav
  omega
 simp only[bnd_mk,cnd_t,cnd_f,Bool.not_true,Bool.not_false]
 rw[show q37_Taken (s,())=state_Taken (s,()) from rfl,p_taken s (by omega) (by omega),bnd_mk,r_looks _ a4 (TakenS s) rfl (by omega) (by omega),bnd_mk,show looksF a4 (TakenS s).toNat=LooksS a4 s from rfl,r_watch,bnd_mk]
 have hz:∀ w:WatchD,eqT (.pr .bool (.pr (.int .i64) (.pr (.int .i64) .unit))) w (false,0,0,())=true->WatchOk w (LooksS a4 s):=fun w h=>by
  have:=(eqT_iff (.pr .bool (.pr (.int .i64) (.pr (.int .i64) .unit))) rfl w (false,0,0,())).1 h
  rw[this]
  exact .inl ⟨rfl,rfl,rfl⟩
 by_cases h2:StopSt a4 o1 s
 rotate_left
 ·refine no ?_ (fun k=>h2 k.2.1)
  by_cases hw:WatchOk s.2.2.2.1 (LooksS a4 s)
  ·by_cases ho:o1=-1
   ·cases he:eqT (.pr .bool (.pr (.int .i64) (.pr (.int .i64) .unit))) s.2.2.2.1 (false,0,0,()) with
    | true=>exact(h2 (.inl ⟨ho,he⟩)).elim
    | false=>rw[dT hw,dT ho];rfl
   ·exact(h2 (.inr ⟨ho,hw⟩)).elim
  ·rw[dF hw];rfl
 have hw:WatchOk s.2.2.2.1 (LooksS a4 s):=by
  rcases h2 with h | h
  ·exact hz _ h.2
  ·exact h.2
 rw[dT hw]
 have hb:(cnd (decide (o1=(-1))) (some (!eqT (.pr .bool (.pr (.int .i64) (.pr (.int .i64) .unit))) s.2.2.2.1 (false,0,0,()))) (some false))=some false:=by
  rcases h2 with h | h
  ·rw[dT h.1,h.2];rfl
  ·rw[dF h.1];rfl
 simp only[bnd_mk,cnd_t,cnd_f,Bool.not_true,Bool.not_false]
 rw[hb]
 simp only[bnd_mk,cnd_t,cnd_f,Bool.not_true,Bool.not_false]
 rw[r_platmay,r_watch]
 by_cases h3:CutSt a4 cu o2 s
 rotate_left
 ·refine no ?_ (fun k=>h3 k.2.2.1)
  by_cases ho:o2=-1
  ·cases he:eqT (.pr (.pr .bool (.pr (.int .i64) (.pr (.int .i64) .unit))) (.pr (.int .i64) (.pr (.int .i64) .unit))) s.2.2.2.2.1 ((false,0,0,()),0,4294967296,()) with
   | true=>exact(h3 (.inl ⟨ho,he⟩)).elim
   | false=>rw[dT ho];rfl
  ·rw[dF ho]
   by_cases c1:CutStOk s.2.2.2.2.1
   rotate_left
   ·rw[dF c1];rfl
   by_cases c2:WatchOk s.2.2.2.2.1.1 (LooksS a4 s)
   rotate_left
   ·rw[dT c1,dF c2];rfl
   by_cases c3:s.2.2.2.2.1.1.2.2.1>=cu.2.2.2.2.1
   ·rw[dT c1,dT c2,dT c3];rfl
   by_cases c4:s.2.2.2.2.1.2.1>cu.2.2.2.2.2.1
   ·rw[dT c1,dT c2,dF c3,dT c4];rfl
   exact(h3 (.inr ⟨ho,c1,c2,by omega,by omega⟩)).elim
 have hb2:∀ {β:Type} (K:Bool->Option β),(bnd (cnd (decide (o2=(-1))) (some (!eqT (.pr (.pr .bool (.pr (.int .i64) (.pr (.int .i64) .unit))) (.pr (.int .i64) (.pr (.int .i64) .unit))) s.2.2.2.2.1 ((false,0,0,()),0,4294967296,()))) (some false)) fun j9=>bnd (cnd (!j9) (bnd (cnd (!decide (o2=(-1))) (bnd (some (decide (CutStOk s.2.2.2.2.1))) fun r10=>bnd (cnd (!(!r10)) (bnd (some (decide (WatchOk s.2.2.2.2.1.1 (LooksS a4 s)))) fun r11=>some (!r11)) (some true)) fun j12=>bnd (cnd (!j12) (some (decide (s.2.2.2.2.1.1.2.2.1>=cu.2.2.2.2.1))) (some true)) fun j13=>bnd (cnd (!j13) (some (decide (s.2.2.2.2.1.2.1>cu.2.2.2.2.2.1))) (some true)) fun j14=>some j14) (some false)) fun j15=>some j15) (some true)) K)=K false:=by
  intro β K
  rcases h3 with h | ⟨h,c1,c2,c3,c4⟩
  ·rw[dT h.1,h.2];rfl
  ·rw[dF h,dT c1,dT c2,dF (by omega:¬ s.2.2.2.2.1.1.2.2.1>=cu.2.2.2.2.1),dF (by omega:¬ s.2.2.2.2.1.2.1>cu.2.2.2.2.2.1)];rfl
 rw[hb2,cnd_f,r_bestmay _ _ _ hl]
 by_cases h4:(o3=-1/\s.2.2.2.2.2.1.length=0)\/(o3≠-1/\(s.2.2.2.2.2.1.length:Int)<=LooksS a4 s/\KeptOk s.2.2.2.2.2.1 ke.2.2.2.1 ke.2.2.1)
 rotate_left
 ·refine no ?_ (fun k=>h4 (by
   rcases k.2.2.2.1 with h | h
   ·exact .inl h
   ·exact .inr ⟨h.1,h.2.1,h.2.2.1⟩))
  by_cases ho:o3=-1
  ·rw[dT ho,dT (show(s.2.2.2.2.2.1.length:Int)>0 by have:=fun h=>h4 (.inl ⟨ho,h⟩);omega)];rfl
  ·rw[dF ho]
   by_cases c1:(s.2.2.2.2.2.1.length:Int)>LooksS a4 s
   ·rw[dT c1];rfl
   by_cases c2:KeptOk s.2.2.2.2.2.1 ke.2.2.2.1 ke.2.2.1
   ·exact(h4 (.inr ⟨ho,by omega,c2⟩)).elim
   ·rw[dF c1,dF c2];rfl
 have hb4:∀ {β:Type} (K:Bool->Option β),(bnd (cnd (decide (o3=(-1))) (some (decide ((s.2.2.2.2.2.1.length:Int)>0))) (some false)) fun j17=>bnd (cnd (!j17) (bnd (cnd (!decide (o3=(-1))) (bnd (cnd (!(decide ((s.2.2.2.2.2.1.length:Int)>LooksS a4 s))) (bnd (some (decide (KeptOk s.2.2.2.2.2.1 ke.2.2.2.1 ke.2.2.1))) fun r18=>some (!r18)) (some true)) fun j19=>some j19) (some false)) fun j20=>some j20) (some true)) K)=K false:=by
  intro β K
  rcases h4 with h | ⟨h,c1,c2⟩
  ·rw[dT h.1,dF (by omega:¬ (s.2.2.2.2.2.1.length:Int)>0)];rfl
  ·rw[dF h,dF (by omega:¬ (s.2.2.2.2.2.1.length:Int)>LooksS a4 s),dT c2];rfl
 rw[hb4,cnd_f]
 have h4':KeptSt a4 ke o3 s↔∀ i,i<s.2.2.2.2.2.1.length->StepOkK a4 s (nth zKp s.2.2.2.2.2.1 i):=by
  constructor
  ·intro h
   rcases h with h | h
   ·intro i hi;omega
   ·exact h.2.2.2
  ·intro h
   rcases h4 with k | k
   ·exact .inl k
   ·exact .inr ⟨k.1,k.2.1,k.2.2,h⟩
 rw[all_as (∀ i,i<s.2.2.2.2.2.1.length->StepOkK a4 s (nth zKp s.2.2.2.2.2.1 i)) s.2.2.2.2.2.1.length (fun i=>StepOkK a4 s (nth zKp s.2.2.2.2.2.1 i)) _ (.inr false) (.inl ()) Iff.rfl ?_ ?_]
 rotate_left
 ·intro i hi _
  dsimp only
  rw[lt_true hi,cnd_t,ati_d zKp hi,wr_succ hi hl]
  generalize nth zKp s.2.2.2.2.2.1 i=v
  simp only[bnd_mk]
  unfold StepOkK
  by_cases c1:v.1<0
  ·rw[dT c1,if_neg (fun h=>by omega)];rfl
  by_cases c2:v.1>=TakenS s
  ·rw[dF c1,dT c2,if_neg (fun h=>by omega)];rfl
  rw[dF c1,dF c2,r_looked _ a4 v.1 rfl (by omega) (by omega)]
  by_cases c3:LookedP a4 v.1
  ·rw[dT c3,if_pos ⟨by omega,by omega,c3⟩];rfl
  ·rw[dF c3,if_neg (fun h=>c3 h.2.2)];rfl
 ·intro _
  dsimp only
  rw[lt_false,cnd_f];rfl
 rw[bndS_ite]
 by_cases h5:∀ i,i<s.2.2.2.2.2.1.length->StepOkK a4 s (nth zKp s.2.2.2.2.2.1 i)
 rotate_left
 ·rw[if_neg h5]
  exact no rfl (fun k=>h5 (h4'.1 k.2.2.2.1))
 rw[if_pos h5,r_sums _ sf se (TakenS s) rfl rfl (by omega) (by omega) (by omega) (by omega),bnd_mk]
 have hA:∀ b:Bool,(b=true↔AvgSt a1 em sf se s)->∃ q,some b=some q/\(q=true↔StateOk a0 a1 a4 st cu ke em o1 o2 o3 sf se s):=fun b hb=>⟨b,rfl,fun h=>⟨h1,h2,h3,h4'.2 h5,hb.1 h⟩,fun h=>hb.2 h.2.2.2.2⟩
 unfold q37_list
 dsimp only
 have hn:∀ (l:List Int) (b:Bool),(cnd (!b) (some (decide ((l.length:Int)=0))) (some (decide ((l.length:Int)=a1))))=some (decide ((l.length:Int)=if b=true then a1 else 0)):=fun l b=>by cases b<;>rfl
 rw[show(cnd em.1 (some (decide (TakenS s>0))) (some false))=some (em.1&&decide (TakenS s>0)) from cnd_some_and _ _]
 simp only[bnd_mk,hn,cnd_some_and]
 apply hA
 unfold AvgSt
 simp only[Bool.and_eq_true,decide_eq_true_eq,and_assoc]
end
end Go.Proofs.YtmomjjgokeffnaaGreat.F
namespace Go.Proofs.YtmomjjgokeffnaaGreat.F
open Go.VX
open Classical
def PlanOkD(p:PlanD):Prop:=PlanOk p.1 p.2.1 p.2.2.1 p.2.2.2.1 p.2.2.2.2.1 p.2.2.2.2.2.1 p.2.2.2.2.2.2.1 p.2.2.2.2.2.2.2.1 p.2.2.2.2.2.2.2.2.1 p.2.2.2.2.2.2.2.2.2.1 p.2.2.2.2.2.2.2.2.2.2.1 p.2.2.2.2.2.2.2.2.2.2.2.1 p.2.2.2.2.2.2.2.2.2.2.2.2.1 p.2.2.2.2.2.2.2.2.2.2.2.2.2.1 p.2.2.2.2.2.2.2.2.2.2.2.2.2.2.1 p.2.2.2.2.2.2.2.2.2.2.2.2.2.2.2.1 p.2.2.2.2.2.2.2.2.2.2.2.2.2.2.2.2.1
structure WfP (p:PlanD):Prop where
 sp:p.2.2.2.2.2.1.length<=9223372036854775807
 fz:p.2.2.2.2.2.2.1.length<=9223372036854775807
 tr:p.2.2.2.2.2.2.2.1.length<=9223372036854775807
 sg:∀ t∈p.2.2.2.2.2.2.2.1,t.2.2.1.length<=9223372036854775807
theorem p_planD(p:PlanD) (w:WfP p):plan_Check (p,())=some (if PlanOkD p then 0 else 1):=by
 obtain⟨a0,a1,a2,a3,a4,sp,fz,tr,st,cu,ke,em,o1,o2,o3,sf,se,_⟩:=p
 exact p_plan a0 a1 a2 a3 a4 sp fz tr st cu ke em o1 o2 o3 sf se w.sp w.fz w.tr w.sg
theorem r_mayD(p:PlanD) (w:WfP p):q28_May (p,())=some (decide (PlanOkD p)):=by
 obtain⟨a0,a1,a2,a3,a4,sp,fz,tr,st,cu,ke,em,o1,o2,o3,sf,se,_⟩:=p
 obtain⟨q,e,h⟩:=r_may a0 a1 a2 a3 a4 sp fz tr st cu ke em o1 o2 o3 sf se w.sp w.fz w.tr w.sg
 refine e.trans (congrArg some ?_)
 cases q with
 | true=>exact(dT (h.1 rfl)).symm
 | false=>exact(dF (fun k=>Bool.false_ne_true (h.2 k))).symm
theorem lightD(p:PlanD):∃ q,l28_Light (p,())=some q:=by
 obtain⟨a0,a1,a2,a3,a4,sp,fz,tr,st,cu,ke,em,o1,o2,o3,sf,se,_⟩:=p
 exact light a0 a1 a2 a3 a4 sp fz tr st cu ke em o1 o2 o3 sf se
theorem planD_head{p:PlanD} (h:PlanOkD p):1<=p.1/\p.1<=1000000:=⟨h.1.1,h.1.2.1⟩
theorem planD_tracks{p:PlanD} (h:PlanOkD p):∀ i,i<p.2.2.2.2.2.2.2.1.length->TrackOk p.1 i (nth zTrack p.2.2.2.2.2.2.2.1 i):=h.2.2.2.1.1
theorem planD_ntracks{p:PlanD} (h:PlanOkD p):p.2.2.2.2.2.2.2.1.length<=24:=by
 have h1:=h.2.2.2.1.2
 have h2:HeadOk _ _ _ _ _:=h.1
 unfold HeadOk at h2
 rw[wr_id (by omega) (by omega)] at h1
 omega
end Go.Proofs.YtmomjjgokeffnaaGreat.F
namespace Go.Proofs.YtmomjjgokeffnaaGreat.F
open Go.VX
open Classical
def StateOkD(p:PlanD) (s:StateD):Prop:=StateOk p.1 p.2.1 p.2.2.2.2.1 p.2.2.2.2.2.2.2.2.1 p.2.2.2.2.2.2.2.2.2.1 p.2.2.2.2.2.2.2.2.2.2.1 p.2.2.2.2.2.2.2.2.2.2.2.1 p.2.2.2.2.2.2.2.2.2.2.2.2.1 p.2.2.2.2.2.2.2.2.2.2.2.2.2.1 p.2.2.2.2.2.2.2.2.2.2.2.2.2.2.1 p.2.2.2.2.2.2.2.2.2.2.2.2.2.2.2.1 p.2.2.2.2.2.2.2.2.2.2.2.2.2.2.2.2.1 s
structure InS (s:StateD):Prop where
 step:In64 s.1
 kl:s.2.2.2.2.2.1.length<=9223372036854775807
 el:s.2.2.2.2.2.2.1.length<=9223372036854775807
 sl:s.2.2.2.2.2.2.2.1.2.1.length<=9223372036854775807
 kr:∀ x∈s.2.2.2.2.2.1,In64 x.2.1
theorem p_stateD(p:PlanD) (s:StateD) (w:WfP p) (h:InS s):state_Check (p,s,())=some (if PlanOkD p/\StateOkD p s then 0 else 1):=by
 obtain⟨a0,a1,a2,a3,a4,sp,fz,tr,st,cu,ke,em,o1,o2,o3,sf,se,_⟩:=p
 exact p_state a0 a1 a2 a3 a4 sp fz tr st cu ke em o1 o2 o3 sf se s w.sp w.fz w.tr w.sg h.kl h.kr h.step
theorem r_stateD(p:PlanD) (s:StateD) (hp:PlanOkD p) (h:InS s):q37_May (p,s,())=some (decide (StateOkD p s)):=by
 obtain⟨a0,a1,a2,a3,a4,sp,fz,tr,st,cu,ke,em,o1,o2,o3,sf,se,_⟩:=p
 obtain⟨q,e,f⟩:=r_state a0 a1 a2 a3 a4 sp fz tr st cu ke em o1 o2 o3 sf se s hp h.kl h.step
 refine e.trans (congrArg some ?_)
 cases q with
 | true=>exact(dT (f.1 rfl)).symm
 | false=>exact(dF (fun k=>Bool.false_ne_true (f.2 k))).symm
theorem r_same01(a b:List Int) (hl:a.length<=9223372036854775807):q01_Same (a,b,())=some (decide (a=b)):=by
 unfold q01_Same
 by_cases h:a.length=b.length
 ·rcases eq_loop (fun x y:Int=>decide (x=y)) (fun x y=>by simp) a b h hl false (fun _=>some true) with⟨h1,h2⟩ | ⟨h1,h2⟩
  ·dsimp only
   rw[len_nat,dT h,dT h1]
   exact h2
  ·dsimp only
   rw[len_nat,dT h,dF h1]
   exact h2
 ·dsimp only
  rw[len_nat,dF h,dF (fun e=>h (by rw[e]))]
  rfl
theorem r_same32(a b:List KeptD) (hl:a.length<=9223372036854775807):q32_Same (a,b,())=some (decide (a=b)):=by
 unfold q32_Same
 by_cases h:a.length=b.length
 ·rcases eq_loop (eqT (.pr (.int .i64) (.pr (.int .i64) .unit))) (eqT_iff _ rfl) a b h hl false (fun _=>some true) with⟨h1,h2⟩ | ⟨h1,h2⟩
  ·dsimp only
   rw[len_nat,dT h,dT h1]
   exact h2
  ·dsimp only
   rw[len_nat,dT h,dF h1]
   exact h2
 ·dsimp only
  rw[len_nat,dF h,dF (fun e=>h (by rw[e]))]
  rfl
theorem r_sameD(X Y:StateD) (h:InS X):q37_Same (X,Y,())=some (decide (X=Y)):=by
 obtain⟨x1,x2,x3,x4,x5,x6,x7,⟨x8,x9,_⟩,_⟩:=X
 obtain⟨y1,y2,y3,y4,y5,y6,y7,⟨y8,y9,_⟩,_⟩:=Y
 have h1:=h.kl
 have h2:=h.el
 have h3:=h.sl
 dsimp only at h1 h2 h3
 suffices hq:∃ q,q37_Same ((x1,x2,x3,x4,x5,x6,x7,(x8,x9,()),()),(y1,y2,y3,y4,y5,y6,y7,(y8,y9,()),()),())=some q/\(q=true↔((x1,x2,x3,x4,x5,x6,x7,(x8,x9,()),()):StateD)=(y1,y2,y3,y4,y5,y6,y7,(y8,y9,()),())) by
  obtain⟨q,e,f⟩:=hq
  refine e.trans (congrArg some ?_)
  cases q with
  | true=>exact(dT (f.1 rfl)).symm
  | false=>exact(dF (fun k=>Bool.false_ne_true (f.2 k))).symm
 have e1:=r_same32 x6 y6 h1
 have e2:=r_same01 x7 y7 h2
 have e3:=r_same01 x9 y9 h3
 unfold q37_Same
 dsimp only
 rw[e1,e2,e3]
 have w:=eqT_iff tWatch rfl x4 y4
 have c:=eqT_iff tCutS rfl x5 y5
 have f1:decide (x6=y6)=true↔x6=y6:=decide_eq_true_iff
 have f2:decide (x7=y7)=true↔x7=y7:=decide_eq_true_iff
 have f3:decide (x9=y9)=true↔x9=y9:=decide_eq_true_iff
 generalize eqT tWatch x4 y4=bw at *
 generalize eqT tCutS x5 y5=bc at *
 generalize decide (x6=y6)=q1 at *
 generalize decide (x7=y7)=q2 at *
 generalize decide (x9=y9)=q3 at *
 by_cases k1:x1=y1
 ·by_cases k2:x2=y2
  ·by_cases k3:x3=y3
   ·by_cases k8:x8=y8
    ·subst k1 k2 k3 k8
     refine⟨bw&&(bc&&(q1&&(q2&&q3))),by cases bw<;>cases bc<;>cases q1<;>cases q2<;>cases q3<;>simp [bnd_mk,cnd_t,cnd_f],?_⟩
     simp only[Bool.and_eq_true,w,c,f1,f2,f3,Prod.mk.injEq,true_and,and_true]
    ·exact⟨false,by cases bw<;>cases bc<;>simp [k1,k2,k3,k8,bnd_mk,cnd_t,cnd_f],by simp [k8]⟩
   ·exact⟨false,by simp [k1,k2,k3,bnd_mk,cnd_t,cnd_f],by simp [k3]⟩
  ·exact⟨false,by simp [k1,k2,bnd_mk,cnd_t,cnd_f],by simp [k2]⟩
 ·exact⟨false,by simp [k1,bnd_mk,cnd_t,cnd_f],by simp [k1]⟩
theorem light37(s:StateD):l37_Light (s,())=some (decide (s.2.2.2.2.2.1.length<=30/\s.2.2.2.2.2.2.1.length<=30/\s.2.2.2.2.2.2.2.1.2.1.length<=30)):=by
 unfold l37_Light
 dsimp only
 by_cases h1:s.2.2.2.2.2.1.length<=30
 ·rw[dT (by omega:(s.2.2.2.2.2.1.length:Int)<=30)]
  by_cases h2:s.2.2.2.2.2.2.1.length<=30
  ·rw[dT (by omega:(s.2.2.2.2.2.2.1.length:Int)<=30)]
   exact congrArg some (decide_eq_decide.2 ⟨fun h=>⟨h1,h2,by omega⟩,fun h=>by omega⟩)
  ·rw[dF (by omega:¬ (s.2.2.2.2.2.2.1.length:Int)<=30)]
   exact congrArg some (dF fun h=>h2 h.2.1).symm
 ·rw[dF (by omega:¬ (s.2.2.2.2.2.1.length:Int)<=30)]
  exact congrArg some (dF fun h=>h1 h.1).symm
theorem stateD_len{p:PlanD} {s:StateD} (hp:PlanOkD p) (h:StateOkD p s):s.2.2.2.2.2.1.length<=16/\s.2.2.2.2.2.2.1.length<=16/\s.2.2.2.2.2.2.2.1.2.1.length<=16:=by
 obtain⟨a0,a1,a2,a3,a4,sp,fz,tr,st,cu,ke,em,o1,o2,o3,sf,se,_⟩:=p
 obtain⟨hh,_,_,_,_,_,hke,_⟩:=hp
 obtain⟨_,_,_,hk,ha⟩:=h
 unfold HeadOk at hh
 dsimp only at hh hke hk ha
 unfold AvgSt at ha
 refine⟨?_,?_,?_⟩
 ·rcases hk with⟨_,h0⟩ | ⟨ho,_,hk,_⟩
  ·omega
  ·rcases hke with⟨h1,_⟩ | ⟨_,_,_,h2⟩
   ·exact(ho h1).elim
   ·have:=hk.2
    omega
 ·have:=ha.1
  split at this<;>omega
 ·have:=ha.2.2
  split at this<;>omega
end Go.Proofs.YtmomjjgokeffnaaGreat.F
namespace Go.Proofs.YtmomjjgokeffnaaGreat.F
open Go.VX
theorem nth_ext{α:Type} (z:α) {a b:List α} (hl:a.length=b.length) (h:∀ i,i<a.length->nth z a i=nth z b i):a=b:=by
 refine List.ext_getElem hl fun i h1 h2=>?_
 have:=h i h1
 simpa [nth,List.getD,h1,h2] using this
theorem nth_map{α β:Type} (z:α) (w:β) (g:α->β) {l:List α} {i:Nat} (h:i<l.length):nth w (l.map g) i=g (nth z l i):=by
 simp [nth,List.getD,h]
theorem nth_set{α:Type} (z:α) (a:List α) (i j:Nat) (d:α) (h:i<a.length):nth z (a.set i d) j=if i=j then d else nth z a j:=by
 by_cases e:i=j
 ·subst e;simp [nth,List.getD,h]
 ·simp [nth,List.getD,e]
theorem amb_same{α:Type} (b:Bool) (k:Bool->Option α) (h:b=true->k true=k false):amb b k=k false:=by
 cases b with
 | false=>rfl
 | true =>
  simp only[amb]
  split
  ·rfl
  ·rename_i hn _
   exact(hn (h rfl)).elim
theorem clone_ok{α:Type} (l:List α) (lim:Nat) (h:l.length<=lim):(amb l.isEmpty fun q1=>cnd q1 (some []) (bnd (app lim [] l) fun v2=>some v2))=some l:=by
 rw[amb_same _ _ (fun hb=>by
  have:l=[]:=by simpa using hb
  subst this
  rfl),cnd_f,app_ok (by simpa using h)]
 rfl
end Go.Proofs.YtmomjjgokeffnaaGreat.F
namespace Go.Proofs.YtmomjjgokeffnaaGreat.F
open Go.VX
open Classical
theorem scan_loop{ρ:Type} (p:Int->Prop) (a b:Int) (hab:a<=b) (f:Int×Unit->Option ((Int×Unit) ⊕ ρ)) (stop:Int->ρ) (fin:ρ)
  (h1:∀ i,a<=i->i<b->(∀ j,a<=j->j<i->p j)->(p i->f (i,())=some (.inl (i+1,())))/\(¬ p i->f (i,())=some (.inr (stop i)))) (h2:(∀ j,a<=j->j<b->p j)->f (b,())=some (.inr fin)) :
  (∃ i,a<=i/\i<b/\¬ p i/\(∀ j,a<=j->j<i->p j)/\loopP f (a,())=some (stop i))\/((∀ j,a<=j->j<b->p j)/\loopP f (a,())=some fin):=by
 have key:∀ n:Nat,a+n<=b->(∃ i,a<=i/\i<a+n/\¬ p i/\(∀ j,a<=j->j<i->p j)/\loopP f (a,())=some (stop i))\/((∀ j,a<=j->j<a+n->p j)/\loopP f (a,())=loopP f (a+n,())):=by
  intro n
  induction n with
  | zero=>intro _;exact .inr ⟨fun j h1 h2=>by omega,by rw[show a+((0:Nat):Int)=a by omega]⟩
  | succ n ih =>
   intro hn
   rcases ih (by omega) with⟨i,a1,a2,a3,a4,a5⟩ | ⟨a1,a2⟩
   ·exact .inl ⟨i,a1,by omega,a3,a4,a5⟩
   ·have hs:=h1 (a+n) (by omega) (by omega) a1
    by_cases hp:p (a+n)
    ·refine .inr ⟨fun j h1 h2=>?_,?_⟩
     ·by_cases hj:j<a+n
      ·exact a1 j h1 hj
      ·rw[show j=a+n by omega];exact hp
     ·rw[a2,loopP_step (hs.1 hp),show a+((n+1:Nat):Int)=a+n+1 by omega]
    ·exact .inl ⟨a+n,by omega,by omega,hp,a1,by rw[a2,loopP_done (hs.2 hp)]⟩
 rcases key (b-a).toNat (by omega) with⟨i,a1,a2,a3,a4,a5⟩ | ⟨a1,a2⟩
 ·exact .inl ⟨i,a1,by omega,a3,a4,a5⟩
 ·have hb:a+((b-a).toNat:Int)=b:=by omega
  rw[hb] at a1 a2
  exact .inr ⟨a1,by rw[a2,loopP_done (h2 a1)]⟩
theorem scan_eq{ρ:Type} (p:Int->Prop) (a b:Int) (hab:a<=b) (f:Int×Unit->Option ((Int×Unit) ⊕ (Unit ⊕ ρ))) (K:Unit->Option ρ) (stop:Int->ρ) (r:ρ)
  (h1:∀ i,a<=i->i<b->(p i->f (i,())=some (.inl (i+1,())))/\(¬ p i->f (i,())=some (.inr (.inr (stop i))))) (h2:f (b,())=some (.inr (.inl ())))
  (H:(∃ i,a<=i/\i<b/\¬ p i/\(∀ j,a<=j->j<i->p j)/\stop i=r)\/((∀ j,a<=j->j<b->p j)/\K ()=some r)):bndS (loopP f (a,())) K=some r:=by
 rcases scan_loop p a b hab f (fun i=>.inr (stop i)) (.inl ()) (fun i i0 i1 _=>h1 i i0 i1) (fun _=>h2) with⟨i,a1,a2,a3,a4,a5⟩ | ⟨a1,a2⟩
 ·rw[a5]
  rcases H with⟨j,b1,b2,b3,b4,b5⟩ | ⟨b1,_⟩
  ·have:i=j:=by
    rcases Int.lt_trichotomy i j with h | h | h
    ·exact(a3 (b4 i a1 h)).elim
    ·exact h
    ·exact(b3 (a4 j b1 h)).elim
   rw[this,b5]
   rfl
  ·exact(a3 (b1 i a1 a2)).elim
 ·rw[a2]
  rcases H with⟨j,b1,b2,b3,_⟩ | ⟨_,b2⟩
  ·exact(b3 (a1 j b1 b2)).elim
  ·exact b2
end Go.Proofs.YtmomjjgokeffnaaGreat.F
namespace Go.Proofs.YtmomjjgokeffnaaGreat.F
open Go.VX
open Classical
noncomputable def atS(most:Bool) (x:KpD):List KpD->Nat
 | []=>0
 | y::r=>if AheadB most x y then 0 else atS most x r+1
theorem atS_le(most:Bool) (x:KpD):∀ l,atS most x l<=l.length
 | []=>Nat.le_refl _
 | y::r=>by
  have:=atS_le most x r
  rw[atS,List.length_cons]
  split<;>omega
theorem atS_no(most:Bool) (x:KpD):∀ l j,j<atS most x l->¬ AheadB most x (nth zKp l j)
 | [],j,h=>by simp [atS] at h
 | y::r,j,h=>by
  rw[atS] at h
  split at h
  ·omega
  ·rename_i hn
   cases j with
   | zero=>exact hn
   | succ j=>exact atS_no most x r j (by omega)
theorem atS_yes(most:Bool) (x:KpD):∀ l,atS most x l<l.length->AheadB most x (nth zKp l (atS most x l))
 | [],h=>by simp at h
 | y::r,h=>by
  rw[atS] at h ⊢
  split at h
  ·rename_i hy
   rw[if_pos hy]
   exact hy
  ·rename_i hy
   rw[if_neg hy]
   exact atS_yes most x r (by rw[List.length_cons] at h;omega)
noncomputable def putL'(most:Bool) (l:List KpD) (x:KpD):List KpD:=l.take (atS most x l)++[x]++l.drop (atS most x l)
theorem putL_len(most:Bool) (l:List KpD) (x:KpD):(putL' most l x).length=l.length+1:=by
 have:=atS_le most x l
 unfold putL'
 simp only[List.length_append,List.length_take,List.length_drop,List.length_cons,List.length_nil]
 omega
theorem putL_nth(most:Bool) (l:List KpD) (x:KpD) (p:Nat):nth zKp (putL' most l x) p=if p<atS most x l then nth zKp l p else if p=atS most x l then x else nth zKp l (p-1):=by
 have h:=atS_le most x l
 unfold putL' nth List.getD
 rw[List.append_assoc,List.getElem?_append]
 by_cases h1:p<atS most x l
 ·rw[if_pos (by rw[List.length_take];omega),if_pos h1,List.getElem?_take,if_pos h1]
 ·rw[if_neg (by rw[List.length_take];omega),if_neg h1,List.length_take,show min (atS most x l) l.length=atS most x l by omega]
  by_cases h2:p=atS most x l
  ·subst h2
   rw[if_pos rfl,Nat.sub_self]
   rfl
  ·rw[if_neg h2,show p-atS most x l=(p-atS most x l-1)+1 by omega,List.singleton_append,List.getElem?_cons_succ,List.getElem?_drop]
   congr 2
   omega
noncomputable def zAhead(most:Bool):((KpD×(KpD×Unit))->Option Bool):=fun a1=>bnd (best_of_1 ((a1.1,a1.2.1,(),()),(most,()))) some
theorem p_index(l:List KpD) (hl:l.length<=1000000) (most:Bool) (x:KpD) (g:KpD×Unit->Option Bool) (hg:∀ y∈l,g (y,())=some (decide (AheadB most x y))) :
  slices_IndexFunc_Kept (l,g,())=some (if atS most x l<l.length then(atS most x l:Int) else -1):=by
 unfold slices_IndexFunc_Kept
 dsimp only
 have hle:=atS_le most x l
 refine scan_eq (fun i=>¬ AheadB most x (nth zKp l i.toNat)) 0 l.length (by omega) _ _ (fun i=>i) _ (fun i i0 i1=>?_) ?_ ?_
 ·obtain⟨k,rfl⟩:∃ k:Nat,i=k:=⟨i.toNat,by omega⟩
  have hk:k<l.length:=by omega
  dsimp only
  rw[Int.toNat_natCast,lt_true hk,cnd_t,ati_d zKp hk,bnd_mk,hg _ (nth_mem hk),bnd_mk,wr_succ hk (by omega)]
  refine⟨fun h=>?_,fun h=>?_⟩
  ·rw[dF h];rfl
  ·rw[dT (Classical.not_not.1 h)];rfl
 ·dsimp only
  rw[lt_false];rfl
 ·by_cases h:atS most x l<l.length
  ·refine .inl ⟨(atS most x l:Int),by omega,by omega,?_,fun j j0 j1=>?_,by rw[if_pos h]⟩
   ·rw[Int.toNat_natCast]
    exact fun hn=>hn (atS_yes most x l h)
   ·exact atS_no most x l _ (by omega)
  ·refine .inr ⟨fun j j0 j1=>atS_no most x l _ (by omega),by rw[if_neg h]⟩
theorem p_put(most:Bool) (c:Int) (out:List KpD) (x:KpD) (hl:out.length<=1000) (hr:KRange out) (hx:In64 x.2.1) :
  best_shelf_put ((c,zAhead most,()),out,x,())=some (if(out.length:Int)+1<=c then(putL' most out x,(0,0,()),false,()) else((putL' most out x).take out.length,nth zKp (putL' most out x) out.length,true,())):=by
 have hle:=atS_le most x out
 have hpl:=putL_len most out x
 have hi:=p_index out (by omega) most x (fun a1=>bnd (best_shelf_put_1 ((a1.1,(),(),()),((c,zAhead most,()),x,()))) some) (fun y hy=>by
  unfold best_shelf_put_1 zAhead
  dsimp only
  rw[p_ahead x y most hx (hr y hy)]
  rfl)
 unfold best_shelf_put
 dsimp only
 rw[hi,bnd_mk]
 have hj:∀ {β:Type} (K:Int×Unit->Option β),bnd (cnd (decide ((if atS most x out<out.length then(atS most x out:Int) else -1)<0)) (some ((out.length:Int),())) (some ((if atS most x out<out.length then(atS most x out:Int) else -1),()))) K=K ((atS most x out:Int),()):=fun K=>by
  by_cases h:atS most x out<out.length
  ·rw[if_pos h,dF (by omega:¬ (atS most x out:Int)<0)];rfl
  ·rw[if_neg h,show out.length=atS most x out by omega];rfl
 have hins:insL 8796093022208 out (atS most x out:Int) [x]=some (putL' most out x):=by
  unfold insL
  rw[if_pos (by simp;omega),Int.toNat_natCast]
  rfl
 rw[hj,show slices_Clone_Kept (out,())=some out from clone_ok out _ (by omega),bnd_mk,hins,bnd_mk,hpl]
 by_cases hc:(out.length:Int)+1<=c
 ·rw[dT (by omega:((out.length+1:Nat):Int)<=c),if_pos hc];rfl
 ·rw[dF (by omega:¬ ((out.length+1:Nat):Int)<=c),if_neg hc,cnd_f,wr_id (x:=((out.length+1:Nat):Int)-1) (by omega) (by omega),show((out.length+1:Nat):Int)-1=(out.length:Int) by omega,inR_ok (by omega),bnd_mk,ati_d zKp (by omega),bnd_mk]
  have hs:sub (putL' most out x) 0 (out.length:Int)=some ((putL' most out x).take out.length):=by
   unfold sub
   rw[if_pos (by omega)]
   rfl
  rw[hs]
  rfl
section
variable (l:List KpD) (most:Bool)
end
end Go.Proofs.YtmomjjgokeffnaaGreat.F
namespace Go.Proofs.YtmomjjgokeffnaaGreat.F
open Go.VX
theorem p_mul(x y:Int) (h1:0<=x) (h2:x<18446744073709551616) (h3:0<=y) (h4:y<18446744073709551616):pair_Mul (x,y,())=some (x*y / 18446744073709551616,x*y % 18446744073709551616,()):=by
 unfold pair_Mul
 dsimp only
 rw[show(2:Int) ^ 32=4294967296 from rfl]
 simp only[fdiv_pos 4294967296 (by omega)]
 rw[and_low h1 h2,and_low h3 h4]
 have ex:x=x / 4294967296*4294967296+x % 4294967296:=by omega
 have ey:y=y / 4294967296*4294967296+y % 4294967296:=by omega
 have a0:0<=x / 4294967296/\x / 4294967296<=4294967295:=by omega
 have b0:0<=x % 4294967296/\x % 4294967296<=4294967295:=by omega
 have c0:0<=y / 4294967296/\y / 4294967296<=4294967295:=by omega
 have d0:0<=y % 4294967296/\y % 4294967296<=4294967295:=by omega
 generalize x / 4294967296=a at *
 generalize x % 4294967296=b at *
 generalize y / 4294967296=c at *
 generalize y % 4294967296=d at *
 have hxy:x*y=(a*c)*18446744073709551616+(a*d+b*c)*4294967296+b*d:=by
  rw[ex,ey];grind
 have bd:∀ u v:Int,0<=u->u<=4294967295->0<=v->v<=4294967295->0<=u*v/\u*v<=18446744065119617025:=fun u v h1 h2 h3 h4=>by
  have k1:=Int.mul_nonneg h1 h3
  have k2:u*v<=4294967295*v:=Int.mul_le_mul_of_nonneg_right h2 h3
  omega
 have k1:=bd a c a0.1 a0.2 c0.1 c0.2
 have k2:=bd a d a0.1 a0.2 d0.1 d0.2
 have k3:=bd b c b0.1 b0.2 c0.1 c0.2
 have k4:=bd b d b0.1 b0.2 d0.1 d0.2
 rw[hxy]
 clear hxy ex ey bd
 generalize a*c=ac at *
 generalize a*d=ad at *
 generalize b*c=bc at *
 generalize b*d=bd at *
 rw[wru_id (x:=ac) (by omega) (by omega),wru_id (x:=ad) (by omega) (by omega),wru_id (x:=bc) (by omega) (by omega),wru_id (x:=bd) (by omega) (by omega),and_low k2.1 (by omega),and_low k3.1 (by omega),and_low k4.1 (by omega)]
 rw[wru_id (x:=bd / 4294967296+ad % 4294967296) (by omega) (by omega),wru_id (x:=bd / 4294967296+ad % 4294967296+bc % 4294967296) (by omega) (by omega)]
 have km:0<=bd / 4294967296+ad % 4294967296+bc % 4294967296/\bd / 4294967296+ad % 4294967296+bc % 4294967296<12884901888:=by omega
 have e1:wr .u64 ((bd / 4294967296+ad % 4294967296+bc % 4294967296)*4294967296)=(bd / 4294967296+ad % 4294967296+bc % 4294967296) % 4294967296*2 ^ 32:=by
  rw[wru_mod,show(2:Int) ^ 32=4294967296 from rfl];omega
 rw[e1,or_add 32 (by omega) (by omega) (by rw[show(2:Int) ^ 32=4294967296 from rfl];omega) (by omega) (by rw[show(2:Int) ^ 32=4294967296 from rfl];omega),show(2:Int) ^ 32=4294967296 from rfl]
 rw[wru_id (x:=ac+ad / 4294967296) (by omega) (by omega),wru_id (x:=ac+ad / 4294967296+bc / 4294967296) (by omega) (by omega),wru_id (x:=ac+ad / 4294967296+bc / 4294967296+(bd / 4294967296+ad % 4294967296+bc % 4294967296) / 4294967296) (by omega) (by omega)]
 congr 1
 refine Prod.ext ?_ (Prod.ext ?_ rfl)
 ·dsimp only;omega
 ·dsimp only;omega
theorem p_size(x:Int) (h0:-9223372036854775808<=x) (h1:x<=9223372036854775807):fix_Size (x,())=some (Abs x):=by
 unfold fix_Size Abs
 dsimp only
 by_cases h:x<0
 ·rw[dT h,cnd_t,if_pos h]
  congr 1
  rw[wru_mod,wru_mod];omega
 ·rw[dF h,cnd_f,if_neg h,wru_id (by omega) (by omega)]
end Go.Proofs.YtmomjjgokeffnaaGreat.F
namespace Go.Proofs.YtmomjjgokeffnaaGreat.F
open Go.VX
def tab8:List Int:=[0,1,2,2,3,3,3,3,4,4,4,4,4,4,4,4,5,5,5,5,5,5,5,5,5,5,5,5,5,5,5,5,6,6,6,6,6,6,6,6,6,6,6,6,6,6,6,6,6,6,6,6,6,6,6,6,6,6,6,6,6,6,6,6,7,7,7,7,7,7,7,7,7,7,7,7,7,7,7,7,7,7,7,7,7,7,7,7,7,7,7,7,7,7,7,7,7,7,7,7,7,7,7,7,7,7,7,7,7,7,7,7,7,7,7,7,7,7,7,7,7,7,7,7,7,7,7,7,8,8,8,8,8,8,8,8,8,8,8,8,8,8,8,8,8,8,8,8,8,8,8,8,8,8,8,8,8,8,8,8,8,8,8,8,8,8,8,8,8,8,8,8,8,8,8,8,8,8,8,8,8,8,8,8,8,8,8,8,8,8,8,8,8,8,8,8,8,8,8,8,8,8,8,8,8,8,8,8,8,8,8,8,8,8,8,8,8,8,8,8,8,8,8,8,8,8,8,8,8,8,8,8,8,8,8,8,8,8,8,8,8,8,8,8,8,8,8,8,8,8,8,8,8,8,8,8]
theorem tab8_ok:∀ i:Nat,i<256->0<=nth 0 tab8 i/\nth 0 tab8 i<=8/\(i:Int)<2 ^ (nth 0 tab8 i).toNat/\(0<i->2 ^ ((nth 0 tab8 i).toNat-1)<=(i:Int)/\0<nth 0 tab8 i):=by decide +kernel
theorem shr_lt{x:Int} {n k:Nat} (h0:0<=x) (h:x / 2 ^ k<2 ^ n):x<2 ^ (n+k):=by
 have hP:(0:Int)<2 ^ k:=Int.pow_pos (by omega)
 have:=Int.lt_mul_of_ediv_lt hP h
 rw[Int.pow_add];exact this
theorem shr_le{x:Int} {n k:Nat} (h:2 ^ n<=x / 2 ^ k):2 ^ (n+k)<=x:=by
 have hP:(0:Int)<2 ^ k:=Int.pow_pos (by omega)
 have:=Int.mul_le_of_le_ediv hP h
 rw[Int.pow_add];exact this
theorem len64_eq(x:Int):bits_Len64 (x,())=(bnd (cnd (decide (x>=4294967296)) (some (Int.fdiv x (2 ^ 32),32,())) (some (x,0,()))) fun j1=>bnd (cnd (decide (j1.1>=65536)) (some (Int.fdiv j1.1 (2 ^ 16),wr .i64 (j1.2.1+16),())) (some (j1.1,j1.2.1,()))) fun j2=>bnd (cnd (decide (j2.1>=256)) (some (Int.fdiv j2.1 (2 ^ 8),wr .i64 (j2.2.1+8),())) (some (j2.1,j2.2.1,()))) fun j3=>bnd (ati tab8 (wr .u8 j3.1)) fun v4=>some (wr .i64 (j3.2.1+(wr .i64 v4)))):=rfl
theorem len64(x:Int) (h0:0<x) (h1:x<18446744073709551616):∃ n:Nat,bits_Len64 (x,())=some (n:Int)/\1<=n/\n<=64/\x<2 ^ n/\2 ^ (n-1)<=x:=by
 have key:∀ (z:Int) (k:Nat),z=x / 2 ^ k->0<z->z<256->k<=56->∃ n:Nat,(bnd (ati tab8 (wr .u8 z)) fun v4=>some (wr .i64 ((k:Int)+(wr .i64 v4))))=some (n:Int)/\1<=n/\n<=64/\x<2 ^ n/\2 ^ (n-1)<=x:=by
  intro z k hz z0 z1 hk
  have e:wr .u8 z=z:=by
   simp only[wr,IntKind.wrap,IntKind.signed,IntKind.bits]
   simp at *;omega
  obtain⟨m,rfl⟩:∃ m:Nat,z=m:=⟨z.toNat,by omega⟩
  have ht:=tab8_ok m (by omega)
  have hl:tab8.length=256:=by decide +kernel
  rw[e,ati_d 0 (by omega),bnd_mk]
  generalize nth 0 tab8 m=t at *
  obtain⟨t,rfl⟩:∃ n:Nat,t=n:=⟨t.toNat,by omega⟩
  rw[Int.toNat_natCast] at ht
  refine⟨t+k,?_,by omega,by omega,?_,?_⟩
  ·rw[wr_id (x:=(t:Int)) (by omega) (by omega),wr_id (by omega) (by omega)];congr 1;omega
  ·exact shr_lt (by omega) (by rw[← hz];exact ht.2.2.1)
  ·rw[show t+k-1=(t-1)+k by omega]
   exact shr_le (by rw[← hz];exact(ht.2.2.2 (by omega)).1)
 rw[len64_eq]
 simp only[show(2:Int) ^ 32=4294967296 from rfl,show(2:Int) ^ 16=65536 from rfl,show(2:Int) ^ 8=256 from rfl,fdiv_pos 4294967296 (by omega),fdiv_pos 65536 (by omega),fdiv_pos 256 (by omega)]
 by_cases c1:x>=4294967296
 ·rw[dT c1,cnd_t,bnd_mk]
  dsimp only
  by_cases c2:x / 4294967296>=65536
  ·rw[dT c2,cnd_t,bnd_mk]
   dsimp only
   by_cases c3:x / 4294967296 / 65536>=256
   ·rw[dT c3,cnd_t,bnd_mk]
    obtain⟨n,e,h⟩:=key (x / 4294967296 / 65536 / 256) 56 (by rw[show(2:Int) ^ 56=72057594037927936 from rfl];omega) (by omega) (by omega) (by omega)
    exact⟨n,e,h⟩
   ·rw[dF c3,cnd_f,bnd_mk]
    obtain⟨n,e,h⟩:=key (x / 4294967296 / 65536) 48 (by rw[show(2:Int) ^ 48=281474976710656 from rfl];omega) (by omega) (by omega) (by omega)
    exact⟨n,e,h⟩
  ·rw[dF c2,cnd_f,bnd_mk]
   dsimp only
   by_cases c3:x / 4294967296>=256
   ·rw[dT c3,cnd_t,bnd_mk]
    obtain⟨n,e,h⟩:=key (x / 4294967296 / 256) 40 (by rw[show(2:Int) ^ 40=1099511627776 from rfl];omega) (by omega) (by omega) (by omega)
    exact⟨n,e,h⟩
   ·rw[dF c3,cnd_f,bnd_mk]
    obtain⟨n,e,h⟩:=key (x / 4294967296) 32 (by rw[show(2:Int) ^ 32=4294967296 from rfl]) (by omega) (by omega) (by omega)
    exact⟨n,e,h⟩
 ·rw[dF c1,cnd_f,bnd_mk]
  dsimp only
  by_cases c2:x>=65536
  ·rw[dT c2,cnd_t,bnd_mk]
   dsimp only
   by_cases c3:x / 65536>=256
   ·rw[dT c3,cnd_t,bnd_mk]
    obtain⟨n,e,h⟩:=key (x / 65536 / 256) 24 (by rw[show(2:Int) ^ 24=16777216 from rfl];omega) (by omega) (by omega) (by omega)
    exact⟨n,e,h⟩
   ·rw[dF c3,cnd_f,bnd_mk]
    obtain⟨n,e,h⟩:=key (x / 65536) 16 (by rw[show(2:Int) ^ 16=65536 from rfl]) (by omega) (by omega) (by omega)
    exact⟨n,e,h⟩
  ·rw[dF c2,cnd_f,bnd_mk]
   dsimp only
   by_cases c3:x>=256
   ·rw[dT c3,cnd_t,bnd_mk]
    obtain⟨n,e,h⟩:=key (x / 256) 8 (by rw[show(2:Int) ^ 8=256 from rfl]) (by omega) (by omega) (by omega)
    exact⟨n,e,h⟩
   ·rw[dF c3,cnd_f,bnd_mk]
    obtain⟨n,e,h⟩:=key x 0 (by simp) (by omega) (by omega) (by omega)
    exact⟨n,e,h⟩
theorem lead64(x:Int) (h0:0<x) (h1:x<18446744073709551616):∃ s:Nat,bits_LeadingZeros64 (x,())=some (s:Int)/\s<=63/\x*2 ^ s<18446744073709551616/\9223372036854775808<=x*2 ^ s:=by
 unfold bits_LeadingZeros64
 dsimp only
 obtain⟨n,e,k1,k2,k3,k4⟩:=len64 x h0 h1
 refine⟨64-n,by rw[e,bnd_mk,wr_id (by omega) (by omega)];congr 1;omega,by omega,?_,?_⟩
 ·have hP:(0:Int)<2 ^ (64-n):=Int.pow_pos (by omega)
  have h:=Int.mul_lt_mul_of_pos_right k3 hP
  rw[← Int.pow_add,show n+(64-n)=64 by omega] at h
  exact h
 ·have hP:(0:Int)<2 ^ (64-n):=Int.pow_pos (by omega)
  have h:=Int.mul_le_mul_of_nonneg_right k4 (Int.le_of_lt hP)
  rw[← Int.pow_add,show n-1+(64-n)=63 by omega] at h
  exact h
end Go.Proofs.YtmomjjgokeffnaaGreat.F
namespace Go.Proofs.YtmomjjgokeffnaaGreat.F
open Go.VX
theorem guess(u v1 v0 t:Int) (hv1:2147483648<=v1) (hv1':v1<4294967296) (hv0:0<=v0) (hv0':v0<4294967296) (ht:0<=t) (ht':t<4294967296) (hu:0<=u) (huv:u<v1*4294967296+v0)
  (q r:Int) (hq:0<=q) (hr:r=u-q*v1) (hr0:0<=r) (hr1:r<4294967296) (hq2:q<=4294967297) (hqQ:(u*4294967296+t) / (v1*4294967296+v0)<=q) :
  (q>=4294967296\/q*v0>4294967296*r+t->(u*4294967296+t) / (v1*4294967296+v0)<=q-1/\0<=q-1)/\(¬ (q>=4294967296\/q*v0>4294967296*r+t)->q=(u*4294967296+t) / (v1*4294967296+v0)):=by
 have hD:0<v1*4294967296+v0:=by omega
 have hdm:=Int.emod_add_mul_ediv (u*4294967296+t) (v1*4294967296+v0)
 have hm:=Int.emod_nonneg (u*4294967296+t) (by omega:v1*4294967296+v0≠0)
 have hm2:=Int.emod_lt_of_pos (u*4294967296+t) hD
 have hQ0:0<=(u*4294967296+t) / (v1*4294967296+v0):=Int.ediv_nonneg (by omega) (by omega)
 have hQ1:(u*4294967296+t) / (v1*4294967296+v0)<4294967296:=Int.ediv_lt_of_lt_mul hD (by omega)
 generalize hQ:(u*4294967296+t) / (v1*4294967296+v0)=Q at *
 generalize (u*4294967296+t) % (v1*4294967296+v0)=m at *
 have hqD:q*(v1*4294967296+v0)=(u-r)*4294967296+q*v0:=by rw[hr];grind
 constructor
 ·rintro(h | h)
  ·omega
  ·have:q≠Q:=by
    intro e
    subst e
    have:(v1*4294967296+v0)*q=q*(v1*4294967296+v0):=Int.mul_comm _ _
    omega
   omega
 ·intro h
  have h1:¬ q>=4294967296:=fun x=>h (.inl x)
  have h2:¬ q*v0>4294967296*r+t:=fun x=>h (.inr x)
  by_cases hlt:Q<q
  ·have h3:(v1*4294967296+v0)*(Q+1)<=(v1*4294967296+v0)*q:=Int.mul_le_mul_of_nonneg_left (by omega) (by omega)
   have h4:(v1*4294967296+v0)*(Q+1)=(v1*4294967296+v0)*Q+(v1*4294967296+v0):=by grind
   have:(v1*4294967296+v0)*q=q*(v1*4294967296+v0):=Int.mul_comm _ _
   omega
  ·omega
theorem great(u v1 v0 t:Int) (hv1:2147483648<=v1) (hv0:0<=v0) (hv0':v0<4294967296) (ht:0<=t) (hu:0<=u)
  (q r:Int) (hq:0<=q) (hr:r=u-q*v1) (hr1:4294967296<=r) (hq2:q<=4294967296) (hqQ:(u*4294967296+t) / (v1*4294967296+v0)<=q):q=(u*4294967296+t) / (v1*4294967296+v0):=by
 have hD:0<v1*4294967296+v0:=by omega
 have h1:q*v0<=4294967296*4294967295:=by
  have h1:q*v0<=4294967296*v0:=Int.mul_le_mul_of_nonneg_right hq2 hv0
  omega
 have hqD:q*(v1*4294967296+v0)=(u-r)*4294967296+q*v0:=by rw[hr];grind
 have:q<=(u*4294967296+t) / (v1*4294967296+v0):=(Int.le_ediv_iff_mul_le hD).2 (by omega)
 omega
theorem first(u v1 v0 t:Int) (hv1:2147483648<=v1) (hv0:0<=v0) (hv0':v0<4294967296) (ht:0<=t) (ht':t<4294967296) (hu:0<=u) (huv:u<v1*4294967296+v0) :
  (u*4294967296+t) / (v1*4294967296+v0)<=u / v1/\u / v1<=4294967297:=by
 have hD:0<v1*4294967296+v0:=by omega
 constructor
 ·refine(Int.le_ediv_iff_mul_le (by omega)).2 ?_
  have hdm:=Int.emod_add_mul_ediv (u*4294967296+t) (v1*4294967296+v0)
  have hm:=Int.emod_nonneg (u*4294967296+t) (by omega:v1*4294967296+v0≠0)
  have hQ0:0<=(u*4294967296+t) / (v1*4294967296+v0):=Int.ediv_nonneg (by omega) (by omega)
  generalize (u*4294967296+t) / (v1*4294967296+v0)=Q at *
  have h1:(v1*4294967296+v0)*Q=Q*v1*4294967296+v0*Q:=by grind
  have h2:0<=v0*Q:=Int.mul_nonneg hv0 hQ0
  omega
 ·have:u / v1<4294967298:=Int.ediv_lt_of_lt_mul (by omega) (by omega)
  omega
theorem digit_loop(u v1 v0 t:Int) (hv1:2147483648<=v1) (hv1':v1<4294967296) (hv0:0<=v0) (hv0':v0<4294967296) (ht:0<=t) (ht':t<4294967296) (hu:0<=u) (huv:u<v1*4294967296+v0) :
  loopP (fun(s10:Int×Int×Unit)=>bnd (cnd (!(decide (s10.1>=4294967296))) (some (decide ((wr .u64 (s10.1*v0))>(wr .u64 ((wr .u64 (4294967296*s10.2.1))+t))))) (some true)) fun j11=>cnd j11 (cnd (decide ((wr .u64 (s10.2.1+v1))>=4294967296)) (inrE (some (wr .u64 (s10.1-1),()))) (inlE (wr .u64 (s10.1-1),wr .u64 (s10.2.1+v1),()))) (inrE (some (s10.1,())))) (u / v1,u-u / v1*v1,())=some ((u*4294967296+t) / (v1*4294967296+v0),()):=by
 obtain⟨r,e,h⟩:=loop_rule (f:=(fun(s10:Int×Int×Unit)=>bnd (cnd (!(decide (s10.1>=4294967296))) (some (decide ((wr .u64 (s10.1*v0))>(wr .u64 ((wr .u64 (4294967296*s10.2.1))+t))))) (some true)) fun j11=>cnd j11 (cnd (decide ((wr .u64 (s10.2.1+v1))>=4294967296)) (inrE (some (wr .u64 (s10.1-1),()))) (inlE (wr .u64 (s10.1-1),wr .u64 (s10.2.1+v1),()))) (inrE (some (s10.1,())))))
  (fun s=>0<=s.1/\s.1<=4294967297/\s.2.1=u-s.1*v1/\0<=s.2.1/\s.2.1<4294967296/\(u*4294967296+t) / (v1*4294967296+v0)<=s.1) (fun s=>(4294967296-s.2.1).toNat) (fun r=>r=((u*4294967296+t) / (v1*4294967296+v0),())) (fun s ⟨i0,i1,i2,i3,i4,i5⟩=>by
   obtain⟨q,r,_⟩:=s
   dsimp only at *
   have hqv:0<=q*v0/\q*v0<18446744073709551616:=by
    have h1:q*v0<=4294967297*v0:=Int.mul_le_mul_of_nonneg_right i1 hv0
    have h2:=Int.mul_nonneg i0 hv0
    omega
   have hg:=guess u v1 v0 t hv1 hv1' hv0 hv0' ht ht' hu huv q r i0 i2 i3 i4 i1 i5
   rw[wru_id (x:=q*v0) hqv.1 hqv.2,wru_id (x:=4294967296*r) (by omega) (by omega),wru_id (x:=4294967296*r+t) (by omega) (by omega),wru_id (x:=r+v1) (by omega) (by omega)]
   by_cases hc:q>=4294967296\/q*v0>4294967296*r+t
   ·have hg1:=hg.1 hc
    have hb:(cnd (!(decide (q>=4294967296))) (some (decide (q*v0>4294967296*r+t))) (some true))=some true:=by
     rcases hc with hc | hc
     ·rw[dT hc];rfl
     ·rw[dT hc];cases decide (q>=4294967296)<;>rfl
    have hr':r+v1=u-(q-1)*v1:=by rw[i2];grind
    rw[hb,bnd_mk,cnd_t,wru_id (x:=q-1) (by omega) (by omega)]
    by_cases hb2:r+v1>=4294967296
    ·right
     refine⟨_,by rw[dT hb2];rfl,?_⟩
     rw[← great u v1 v0 t hv1 hv0 hv0' ht hu (q-1) (r+v1) hg1.2 hr' hb2 (by omega) hg1.1]
    ·left
     refine⟨_,by rw[dF hb2];rfl,⟨hg1.2,by dsimp only;omega,hr',by dsimp only;omega,by dsimp only;omega,hg1.1⟩,by dsimp only;omega⟩
   ·right
    have hb:(cnd (!(decide (q>=4294967296))) (some (decide (q*v0>4294967296*r+t))) (some true))=some false:=by
     rw[dF (fun x=>hc (.inl x)),dF (fun x=>hc (.inr x))];rfl
    rw[hb,bnd_mk,cnd_f]
    refine⟨_,rfl,?_⟩
    rw[← hg.2 hc]) (u / v1,u-u / v1*v1,()) (by
    have hf:=first u v1 v0 t hv1 hv0 hv0' ht ht' hu huv
    have h1:=Int.emod_add_mul_ediv u v1
    have h2:=Int.emod_nonneg u (by omega:v1≠0)
    have h3:=Int.emod_lt_of_pos u (by omega:0<v1)
    have h4:u / v1*v1=v1*(u / v1):=Int.mul_comm _ _
    exact⟨Int.ediv_nonneg hu (by omega),hf.2,rfl,by dsimp only;omega,by dsimp only;omega,hf.1⟩)
 rw[e,h]
theorem digit_loop2(u v1 v0 t:Int) (hv1:2147483648<=v1) (hv1':v1<4294967296) (hv0:0<=v0) (hv0':v0<4294967296) (ht:0<=t) (ht':t<4294967296) (hu:0<=u) (huv:u<v1*4294967296+v0) :
  loopP (fun(s10:Int×Int×Unit)=>bnd (cnd (!(decide (s10.2.1>=4294967296))) (some (decide ((wr .u64 (s10.2.1*v0))>(wr .u64 ((wr .u64 (4294967296*s10.1))+t))))) (some true)) fun j11=>cnd j11 (cnd (decide ((wr .u64 (s10.1+v1))>=4294967296)) (inrE (some (wr .u64 (s10.2.1-1),()))) (inlE (wr .u64 (s10.1+v1),wr .u64 (s10.2.1-1),()))) (inrE (some (s10.2.1,())))) (u-u / v1*v1,u / v1,())=some ((u*4294967296+t) / (v1*4294967296+v0),()):=by
 obtain⟨r,e,h⟩:=loop_rule (f:=(fun(s10:Int×Int×Unit)=>bnd (cnd (!(decide (s10.2.1>=4294967296))) (some (decide ((wr .u64 (s10.2.1*v0))>(wr .u64 ((wr .u64 (4294967296*s10.1))+t))))) (some true)) fun j11=>cnd j11 (cnd (decide ((wr .u64 (s10.1+v1))>=4294967296)) (inrE (some (wr .u64 (s10.2.1-1),()))) (inlE (wr .u64 (s10.1+v1),wr .u64 (s10.2.1-1),()))) (inrE (some (s10.2.1,())))))
  (fun s=>0<=s.2.1/\s.2.1<=4294967297/\s.1=u-s.2.1*v1/\0<=s.1/\s.1<4294967296/\(u*4294967296+t) / (v1*4294967296+v0)<=s.2.1) (fun s=>(4294967296-s.1).toNat) (fun r=>r=((u*4294967296+t) / (v1*4294967296+v0),())) (fun s ⟨i0,i1,i2,i3,i4,i5⟩=>by
   obtain⟨r,q,_⟩:=s
   dsimp only at *
   have hqv:0<=q*v0/\q*v0<18446744073709551616:=by
    have h1:q*v0<=4294967297*v0:=Int.mul_le_mul_of_nonneg_right i1 hv0
    have h2:=Int.mul_nonneg i0 hv0
    omega
   have hg:=guess u v1 v0 t hv1 hv1' hv0 hv0' ht ht' hu huv q r i0 i2 i3 i4 i1 i5
   rw[wru_id (x:=q*v0) hqv.1 hqv.2,wru_id (x:=4294967296*r) (by omega) (by omega),wru_id (x:=4294967296*r+t) (by omega) (by omega),wru_id (x:=r+v1) (by omega) (by omega)]
   by_cases hc:q>=4294967296\/q*v0>4294967296*r+t
   ·have hg1:=hg.1 hc
    have hb:(cnd (!(decide (q>=4294967296))) (some (decide (q*v0>4294967296*r+t))) (some true))=some true:=by
     rcases hc with hc | hc
     ·rw[dT hc];rfl
     ·rw[dT hc];cases decide (q>=4294967296)<;>rfl
    have hr':r+v1=u-(q-1)*v1:=by rw[i2];grind
    rw[hb,bnd_mk,cnd_t,wru_id (x:=q-1) (by omega) (by omega)]
    by_cases hb2:r+v1>=4294967296
    ·right
     refine⟨_,by rw[dT hb2];rfl,?_⟩
     rw[← great u v1 v0 t hv1 hv0 hv0' ht hu (q-1) (r+v1) hg1.2 hr' hb2 (by omega) hg1.1]
    ·left
     refine⟨_,by rw[dF hb2];rfl,⟨hg1.2,by dsimp only;omega,hr',by dsimp only;omega,by dsimp only;omega,hg1.1⟩,by dsimp only;omega⟩
   ·right
    have hb:(cnd (!(decide (q>=4294967296))) (some (decide (q*v0>4294967296*r+t))) (some true))=some false:=by
     rw[dF (fun x=>hc (.inl x)),dF (fun x=>hc (.inr x))];rfl
    rw[hb,bnd_mk,cnd_f]
    refine⟨_,rfl,?_⟩
    rw[← hg.2 hc]) (u-u / v1*v1,u / v1,()) (by
    have hf:=first u v1 v0 t hv1 hv0 hv0' ht ht' hu huv
    have h1:=Int.emod_add_mul_ediv u v1
    have h2:=Int.emod_nonneg u (by omega:v1≠0)
    have h3:=Int.emod_lt_of_pos u (by omega:0<v1)
    have h4:u / v1*v1=v1*(u / v1):=Int.mul_comm _ _
    exact⟨Int.ediv_nonneg hu (by omega),hf.2,rfl,by dsimp only;omega,by dsimp only;omega,hf.1⟩)
 rw[e,h]
theorem div64(hi lo y:Int) (h0:0<=hi) (hy:hi<y) (hy1:y<18446744073709551616) (l0:0<=lo) (l1:lo<18446744073709551616):bits_Div64 (hi,lo,y,())=some ((hi*18446744073709551616+lo) / y,(hi*18446744073709551616+lo) % y,()):=by
 unfold bits_Div64
 dsimp only
 rw[dF (by omega:¬ y=0),dF (by omega:¬ y<=hi),cnd_f,cnd_f]
 by_cases hz:hi=0
 ·rw[dT hz,cnd_t,quo_u l0 l1 (by omega),rem_u l0 (by omega),hz]
  simp [bnd_mk]
 rw[dF hz,cnd_f]
 obtain⟨s,e1,k1,k2,k3⟩:=lead64 y (by omega) hy1
 rw[e1,bnd_mk,shl_u (by omega),shl_u (by omega),shl_u (by omega)]
 rw[show wr .u64 (64-wr .u64 (s:Int))=wr .u64 ((64-s:Nat):Int) by rw[wru_id (x:=(s:Int)) (by omega) (by omega)];congr 1;omega,shr_u (by omega) l0,bnd_mk,bnd_mk,bnd_mk,bnd_mk]
 have hP:(0:Int)<2 ^ s:=Int.pow_pos (by omega)
 have hR:(0:Int)<2 ^ (64-s):=Int.pow_pos (by omega)
 have hPR:(2:Int) ^ s*2 ^ (64-s)=18446744073709551616:=by
  rw[← Int.pow_add,show s+(64-s)=64 by omega];rfl
 have hy64:y*2 ^ s>0:=by omega
 have hhi:hi*2 ^ s+2 ^ s<=y*2 ^ s:=by
  have h1:(hi+1)*2 ^ s<=y*2 ^ s:=Int.mul_le_mul_of_nonneg_right (by omega) (by omega)
  have h2:(hi+1)*2 ^ s=hi*2 ^ s+2 ^ s:=by grind
  omega
 have hhi0:0<=hi*2 ^ s:=Int.mul_nonneg h0 (by omega)
 have hlo:lo / 2 ^ (64-s)<2 ^ s:=Int.ediv_lt_of_lt_mul hR (by rw[hPR];exact l1)
 have hlo0:0<=lo / 2 ^ (64-s):=Int.ediv_nonneg l0 (by omega)
 rw[wru_id (x:=y*2 ^ s) (by omega) (by omega),wru_id (x:=hi*2 ^ s) (by omega) (by omega),or_add s (by omega) h0 (by omega) hlo0 hlo,wru_mod (lo*2 ^ s)]
 have hlos:lo*2 ^ s=lo / 2 ^ (64-s)*18446744073709551616+lo*2 ^ s % 18446744073709551616:=by
  have h1:=Int.emod_add_mul_ediv (lo*2 ^ s) 18446744073709551616
  have h2:lo*2 ^ s / 18446744073709551616=lo / 2 ^ (64-s):=by
   rw[← hPR,Int.mul_comm ((2:Int) ^ s),Int.mul_ediv_mul_of_pos_left _ _ hP]
  omega
 have hw0:0<=lo*2 ^ s % 18446744073709551616/\lo*2 ^ s % 18446744073709551616<18446744073709551616:=by omega
 have hN:(hi*18446744073709551616+lo)*2 ^ s=(hi*2 ^ s+lo / 2 ^ (64-s))*18446744073709551616+lo*2 ^ s % 18446744073709551616:=by
  have:(hi*18446744073709551616+lo)*2 ^ s=hi*2 ^ s*18446744073709551616+lo*2 ^ s:=by grind
  omega
 have huy:hi*2 ^ s+lo / 2 ^ (64-s)<y*2 ^ s:=by omega
 have hq:(hi*18446744073709551616+lo) / y=(hi*18446744073709551616+lo)*2 ^ s / (y*2 ^ s):=(Int.mul_ediv_mul_of_pos_left _ _ hP).symm
 have hm:(hi*18446744073709551616+lo) % y=(hi*18446744073709551616+lo)*2 ^ s % (y*2 ^ s) / 2 ^ s:=by
  rw[Int.mul_comm _ ((2:Int) ^ s),Int.mul_comm y,Int.mul_emod_mul_of_pos _ _ hP,Int.mul_ediv_cancel_left _ (by omega)]
 rw[hq,hm,hN]
 clear hq hm hN hlos
 have hu0:0<=hi*2 ^ s+lo / 2 ^ (64-s):=by omega
 generalize hY:y*2 ^ s=Y at *
 generalize hi*2 ^ s+lo / 2 ^ (64-s)=u at *
 generalize lo*2 ^ s % 18446744073709551616=w at *
 clear hhi hhi0 hlo hlo0 hR hPR hY
 rw[show(2:Int) ^ 32=4294967296 from rfl]
 simp only[fdiv_pos 4294967296 (by omega)]
 rw[and_low (x:=Y) (by omega) (by omega),and_low (x:=w) (by omega) (by omega),quo_u hu0 (by omega) (by omega),bnd_mk]
 have hYv:Y=Y / 4294967296*4294967296+Y % 4294967296:=by omega
 have hw:w=w / 4294967296*4294967296+w % 4294967296:=by omega
 have hv1:2147483648<=Y / 4294967296/\Y / 4294967296<4294967296:=by omega
 have hv0:0<=Y % 4294967296/\Y % 4294967296<4294967296:=by omega
 have ht1:0<=w / 4294967296/\w / 4294967296<4294967296:=by omega
 have ht0:0<=w % 4294967296/\w % 4294967296<4294967296:=by omega
 have hres:∀ u':Int,0<=u'->u'<18446744073709551616->wr .u64 (u'-wr .u64 (u' / (Y / 4294967296)*(Y / 4294967296)))=u'-u' / (Y / 4294967296)*(Y / 4294967296):=by
  intro u' h1 h2
  have h3:=Int.emod_add_mul_ediv u' (Y / 4294967296)
  have h4:=Int.emod_nonneg u' (by omega:Y / 4294967296≠0)
  have h5:u' / (Y / 4294967296)*(Y / 4294967296)=(Y / 4294967296)*(u' / (Y / 4294967296)):=Int.mul_comm _ _
  have h6:0<=u' / (Y / 4294967296):=Int.ediv_nonneg h1 (by omega)
  have h7:0<=(Y / 4294967296)*(u' / (Y / 4294967296)):=Int.mul_nonneg (by omega) h6
  rw[wru_id (x:=u' / (Y / 4294967296)*(Y / 4294967296)) (by omega) (by omega),wru_id (by omega) (by omega)]
 have hdl:=digit_loop u (Y / 4294967296) (Y % 4294967296) (w / 4294967296) hv1.1 hv1.2 hv0.1 hv0.2 ht1.1 ht1.2 hu0 (by omega)
 rw[hres u hu0 (by omega)]
 rw[hdl,bnd_mk]
 rw[← hYv]
 have hU1:=Int.emod_add_mul_ediv (u*4294967296+w / 4294967296) Y
 have hm1:=Int.emod_nonneg (u*4294967296+w / 4294967296) (by omega:Y≠0)
 have hm2:=Int.emod_lt_of_pos (u*4294967296+w / 4294967296) (by omega:0<Y)
 have hq1:0<=(u*4294967296+w / 4294967296) / Y/\(u*4294967296+w / 4294967296) / Y<4294967296:=⟨Int.ediv_nonneg (by omega) (by omega),Int.ediv_lt_of_lt_mul (by omega) (by omega)⟩
 have hsplit:u*18446744073709551616+w=(u*4294967296+w / 4294967296)*4294967296+w % 4294967296:=by omega
 generalize hq1v:(u*4294967296+w / 4294967296) / Y=q1 at *
 generalize (u*4294967296+w / 4294967296) % Y=m1 at *
 dsimp only
 have e21:wr .u64 (wr .u64 (wr .u64 (u*4294967296)+w / 4294967296)-wr .u64 (q1*Y))=m1:=by
  have:q1*Y=Y*q1:=Int.mul_comm _ _
  rw[wru_mod,wru_mod,wru_mod,wru_mod]
  omega
 rw[e21,quo_u hm1 (by omega) (by omega),bnd_mk]
 have hdl2:=digit_loop2 m1 (Y / 4294967296) (Y % 4294967296) (w % 4294967296) hv1.1 hv1.2 hv0.1 hv0.2 ht0.1 ht0.2 hm1 (by omega)
 rw[hres m1 hm1 (by omega),hdl2,bnd_mk,← hYv]
 dsimp only
 have hU2:=Int.emod_add_mul_ediv (m1*4294967296+w % 4294967296) Y
 have hn1:=Int.emod_nonneg (m1*4294967296+w % 4294967296) (by omega:Y≠0)
 have hn2:=Int.emod_lt_of_pos (m1*4294967296+w % 4294967296) (by omega:0<Y)
 have hq0:0<=(m1*4294967296+w % 4294967296) / Y/\(m1*4294967296+w % 4294967296) / Y<4294967296:=⟨Int.ediv_nonneg (by omega) (by omega),Int.ediv_lt_of_lt_mul (by omega) (by omega)⟩
 have hd:u*18446744073709551616+w=(m1*4294967296+w % 4294967296)+Y*(q1*4294967296):=by
  rw[hsplit,← hU1];grind
 have hdq:(u*18446744073709551616+w) / Y=q1*4294967296+(m1*4294967296+w % 4294967296) / Y:=by
  rw[hd,Int.add_mul_ediv_left _ _ (by omega)];omega
 have hdm:(u*18446744073709551616+w) % Y=(m1*4294967296+w % 4294967296) % Y:=by
  rw[hd,Int.add_mul_emod_self_left]
 rw[hdq,hdm]
 generalize (m1*4294967296+w % 4294967296) / Y=q0 at *
 generalize hn:(m1*4294967296+w % 4294967296) % Y=n at *
 have er:wr .u64 (wr .u64 (wr .u64 (m1*4294967296)+w % 4294967296)-wr .u64 (q0*Y))=n:=by
  have:q0*Y=Y*q0:=Int.mul_comm _ _
  rw[wru_mod,wru_mod,wru_mod,wru_mod]
  omega
 rw[er,shr_u (by omega) hn1,bnd_mk,wru_id (x:=q1*4294967296) (by omega) (by omega),wru_id (by omega) (by omega)]
end Go.Proofs.YtmomjjgokeffnaaGreat.F
namespace Go.Proofs.YtmomjjgokeffnaaGreat.F
open Go.VX
theorem p_up(q t d:Int) (hq:0<=q) (h0:0<=t) (h1:t<d) (h2:d<18446744073709551616):half_up (q,t,d,())=some (decide (2*t>d\/(2*t=d/\q % 2=1))):=by
 unfold half_up
 dsimp only
 rw[wru_id (x:=d-t) (by omega) (by omega),Int.tmod_eq_emod_of_nonneg hq]
 by_cases k1:2*t>d
 ·rw[dT (by omega:t>d-t),dT (show 2*t>d\/(2*t=d/\q % 2=1) from .inl k1)];rfl
 ·rw[dF (by omega:¬ t>d-t)]
  by_cases k2:2*t=d
  ·rw[dT (by omega:t=d-t)]
   by_cases k3:q % 2=1
   ·rw[dT k3,dT (show 2*t>d\/(2*t=d/\q % 2=1) from .inr ⟨k2,k3⟩)];rfl
   ·rw[dF k3,dF (show ¬ (2*t>d\/(2*t=d/\q % 2=1)) by omega)];rfl
  ·rw[dF (by omega:¬ t=d-t),dF (show ¬ (2*t>d\/(2*t=d/\q % 2=1)) by omega)];rfl
theorem p_near(hi lo d:Int) (h0:0<=hi) (h1:hi<18446744073709551616) (l0:0<=lo) (l1:lo<18446744073709551616) (d0:0<=d) (d1:d<18446744073709551616):half_Near ((hi,lo,()),d,())=some (NearS (hi*18446744073709551616+lo) hi d):=by
 unfold half_Near half_Over NearS
 dsimp only
 by_cases hd:d=0
 ·rw[dT hd,if_pos hd];rfl
 rw[dF hd,if_neg hd,cnd_f]
 by_cases hh:d<=hi
 ·rw[dT (show hi>=d from hh),if_pos hh];rfl
 rw[dF (show ¬ hi>=d from hh),if_neg hh,cnd_f,div64 hi lo d h0 (by omega) d1 l0 l1]
 have hN:0<=hi*18446744073709551616+lo:=by omega
 have hq:0<=(hi*18446744073709551616+lo) / d:=Int.ediv_nonneg hN d0
 have hq1:(hi*18446744073709551616+lo) / d<18446744073709551616:=Int.ediv_lt_of_lt_mul (by omega) (by omega)
 have hm:=Int.emod_nonneg (hi*18446744073709551616+lo) hd
 have hm1:=Int.emod_lt_of_pos (hi*18446744073709551616+lo) (by omega:0<d)
 simp only[bnd_mk]
 unfold Rd
 generalize (hi*18446744073709551616+lo) / d=q at *
 generalize (hi*18446744073709551616+lo) % d=t at *
 rw[p_up q t d hq hm hm1 d1]
 by_cases k:2*t>d\/(2*t=d/\q % 2=1)
 ·rw[dT k,if_pos k]
  by_cases k2:q+1=18446744073709551616
  ·rw[if_pos k2,wru_mod,dT (by omega:(q+1) % 18446744073709551616=0)];rfl
  ·rw[if_neg k2,wru_id (by omega) (by omega),dF (by omega:¬ q+1=0)];rfl
 ·rw[dF k,if_neg k,if_neg (by omega)];rfl
theorem p_shift32(hi lo:Int) (h0:0<=hi) (h1:hi<18446744073709551616) (l0:0<=lo) (l1:lo<18446744073709551616):half_Shift ((hi,lo,()),32,())=some (NearS (hi*18446744073709551616+lo) hi 4294967296):=by
 unfold half_Shift
 have e:pair_Shl ((0,1,()),minL (maxL 32 [0]) [63],())=some ((0,4294967296,()),true,()):=by rfl
 dsimp only
 rw[e,bnd_mk]
 dsimp only
 rw[p_near hi lo _ h0 h1 l0 l1 (by omega) (by omega)]
 rfl
theorem sg_cases(u:Int) (neg:Bool) (h0:0<=u) (h1:u<18446744073709551616):fix_Signed (u,neg,())=some (Sg u neg):=by
 unfold fix_Signed Sg
 dsimp only
 cases neg with
 | true =>
  by_cases k:u<=9223372036854775808
  ·rw[dT k,if_neg (by simp;omega)]
   have e:wr .i64 (wr .u64 (0-u))=-u:=by
    rw[wru_mod]
    by_cases hz:u=0
    ·rw[hz];rfl
    ·rw[show(0-u) % 18446744073709551616=18446744073709551616-u by omega]
     simp only[wr,IntKind.wrap,IntKind.signed,IntKind.bits,Bool.true_and,if_true]
     split<;>(simp at *;omega)
   show some (wr .i64 (wr .u64 (0-u)),0,())=_
   rw[e];rfl
  ·rw[dF k,if_pos (by omega)];rfl
 | false =>
  by_cases k:u<9223372036854775808
  ·rw[dT k,if_neg (by omega)]
   show some (wr .i64 u,0,())=_
   rw[wr_id (by omega) (by omega)];rfl
  ·rw[dF k,if_pos (by simp;omega)];rfl
theorem p_fixmul(x y:Int) (h1:-9223372036854775808<=x) (h2:x<=9223372036854775807) (h3:-9223372036854775808<=y) (h4:y<=9223372036854775807):fix_Mul (x,y,())=some (MulS x y):=by
 unfold fix_Mul MulS
 dsimp only
 have ax:=abs_b x h1 h2
 have ay:=abs_b y h3 h4
 rw[p_size x h1 h2,bnd_mk,p_size y h3 h4,bnd_mk,p_mul _ _ ax.1 (by omega) ay.1 (by omega),bnd_mk]
 have hn:0<=Abs x*Abs y:=Int.mul_nonneg ax.1 ay.1
 have hn2:Abs x*Abs y<=85070591730234615865843651857942052864:=by
  have h1:Abs x*Abs y<=9223372036854775808*Abs y:=Int.mul_le_mul_of_nonneg_right ax.2 ay.1
  omega
 generalize Abs x*Abs y=n at *
 rw[p_shift32 _ _ (by omega) (by omega) (by omega) (by omega),bnd_mk,show n / 18446744073709551616*18446744073709551616+n % 18446744073709551616=n by omega]
 generalize (!decide (decide (x<0)=decide (y<0)))=neg
 unfold NearS
 rw[if_neg (by omega)]
 have hr:=rd_le n 4294967296 (by omega) hn
 by_cases k:4294967296<=n / 18446744073709551616
 ·rw[if_pos k]
  have:Rd n 4294967296>=18446744073709551616:=by
   unfold Rd;split<;>omega
  have e:Sg (Rd n 4294967296) neg=(0,4,()):=by unfold Sg;rw[if_pos (by omega)]
  rw[e];rfl
 ·rw[if_neg k]
  by_cases k2:Rd n 4294967296=18446744073709551616
  ·rw[if_pos k2,k2]
   have e:Sg 18446744073709551616 neg=(0,4,()):=by unfold Sg;rw[if_pos (by omega)]
   rw[e];rfl
  ·rw[if_neg k2]
   have:Rd n 4294967296<=18446744073709551616:=by omega
   dsimp only
   rw[sg_cases _ neg hr.1 (by omega)]
   rfl
end Go.Proofs.YtmomjjgokeffnaaGreat.F
namespace Go.Proofs.YtmomjjgokeffnaaGreat.F
open Go.VX
theorem rd_mono{n m d:Int} (hd:0<d) (h:n<=m):Rd n d<=Rd m d:=by
 have a1:=Int.emod_add_mul_ediv n d
 have a2:=Int.emod_nonneg n (by omega:d≠0)
 have a3:=Int.emod_lt_of_pos n hd
 have b1:=Int.emod_add_mul_ediv m d
 have b2:=Int.emod_nonneg m (by omega:d≠0)
 have b3:=Int.emod_lt_of_pos m hd
 have hq:n / d<=m / d:=Int.ediv_le_ediv hd h
 unfold Rd
 by_cases e:n / d=m / d
 ·rw[e] at a1 ⊢
  have:n % d<=m % d:=by omega
  split<;>split<;>omega
 ·split<;>split<;>omega
theorem rd_exact{x d:Int} (hd:0<d):Rd (x*d) d=x:=by
 unfold Rd
 rw[Int.mul_emod_left,Int.mul_ediv_cancel _ (by omega),if_neg (by omega)]
theorem rd_bound{n d x:Int} (hd:0<d) (h:n<=x*d):Rd n d<=x:=by
 have:=rd_mono hd h
 rwa [rd_exact hd] at this
theorem rd_nonneg{n d:Int} (hd:0<d) (h:0<=n):0<=Rd n d:=(rd_le n d hd h).1
theorem p_shl32(u:Int) (h0:0<=u) (h1:u<18446744073709551616):∃ b,pair_Shl ((0,u,()),32,())=some ((u / 4294967296,u % 4294967296*4294967296,()),b,()):=by
 unfold pair_Shl pair_held
 dsimp only
 rw[show minL (maxL 32 [0]) [128]=((32:Nat):Int) from rfl]
 simp only[bnd_mk]
 rw[shl_u (by omega),shl_u (by omega),show wr .u64 (64-wr .u64 ((32:Nat):Int))=wr .u64 ((32:Nat):Int) from rfl,shr_u (by omega) h0,show decide (wr .u64 ((32:Nat):Int)>=64)=false from rfl]
 simp only[bnd_mk,cnd_f]
 rw[show(2:Int) ^ 32=4294967296 from rfl,show wr .u64 (0*4294967296)=0*2 ^ 32 from rfl,or_add 32 (by omega) (by omega) (by omega) (by omega) (by rw[show(2:Int) ^ 32=4294967296 from rfl];omega)]
 have e:wr .u64 (u*4294967296)=u % 4294967296*4294967296:=by rw[wru_mod];omega
 rw[e,Int.zero_mul,Int.zero_add]
 have hs:∃ w,pair_Shr ((u / 4294967296,u % 4294967296*4294967296,()),((32:Nat):Int),())=some w:=by
  unfold pair_Shr pair_held
  dsimp only
  rw[show minL (maxL ((32:Nat):Int) [0]) [128]=((32:Nat):Int) from rfl]
  simp only[bnd_mk]
  rw[show decide (wr .u64 ((32:Nat):Int)>=64)=false from rfl,cnd_f,shr_u (by omega) (by omega),shr_u (by omega) (by omega),show wr .u64 (64-wr .u64 ((32:Nat):Int))=wr .u64 ((32:Nat):Int) from rfl,shl_u (by omega)]
  exact⟨_,rfl⟩
 obtain⟨w,hw⟩:=hs
 have hw':pair_Shr ((u / 4294967296,u % 4294967296*4294967296,()),32,())=some w:=hw
 rw[hw']
 exact⟨_,rfl⟩
theorem p_share(i n:Int) (h0:0<=i) (h1:i<n) (h2:2<=n) (h3:n<=1099511627776):lerp_Share (i,n,())=some (Rd (i*4294967296) (n-1),0,()):=by
 unfold lerp_Share
 dsimp only
 rw[dF (by omega:¬ n<1),dF (by omega:¬ n>1099511627776),dF (by omega:¬ i<0),dF (by omega:¬ i>=n),dF (by omega:¬ n=1)]
 simp only[bnd_mk,cnd_t,cnd_f,Bool.not_false]
 rw[wru_id (x:=i) h0 (by omega),wr_id (x:=n-1) (by omega) (by omega),wru_id (x:=n-1) (by omega) (by omega)]
 obtain⟨b,e⟩:=p_shl32 i h0 (by omega)
 rw[e,bnd_mk,p_near _ _ _ (by omega) (by omega) (by omega) (by omega) (by omega) (by omega),bnd_mk]
 rw[show i / 4294967296*18446744073709551616+i % 4294967296*4294967296=i*4294967296 by omega]
 unfold NearS
 have hb:Rd (i*4294967296) (n-1)<=4294967296:=rd_bound (by omega) (by omega)
 have hb0:=rd_nonneg (n:=i*4294967296) (d:=n-1) (by omega) (by omega)
 rw[if_neg (by omega),if_neg (by omega),if_neg (by omega)]
 dsimp only
 rw[wr_id (by omega) (by omega)]
theorem p_scaled(d t:Int) (h0:0<=d) (h1:d<18446744073709551616) (t0:0<=t) (t1:t<=4294967296):lerp_scaled (d,t,())=some (Rd (d*t) 4294967296):=by
 unfold lerp_scaled
 dsimp only
 rw[wru_id (x:=t) t0 (by omega),p_mul d t h0 h1 t0 (by omega),bnd_mk]
 have hn:0<=d*t:=Int.mul_nonneg h0 t0
 have hn2:d*t<=d*4294967296:=Int.mul_le_mul_of_nonneg_left t1 h0
 have hb:Rd (d*t) 4294967296<=d:=rd_bound (by omega) hn2
 generalize d*t=n at *
 rw[p_shift32 _ _ (by omega) (by omega) (by omega) (by omega),bnd_mk,show n / 18446744073709551616*18446744073709551616+n % 18446744073709551616=n by omega]
 unfold NearS
 rw[if_neg (by omega),if_neg (by omega),if_neg (by omega)]
def LerpS(a b t:Int):Int:=if a<=b then a+Rd ((b-a)*t) 4294967296 else a-Rd ((a-b)*t) 4294967296
theorem p_lerp(a b t:Int) (a0:-9223372036854775808<=a) (a1:a<=9223372036854775807) (b0:-9223372036854775808<=b) (b1:b<=9223372036854775807) (t0:0<=t) (t1:t<=4294967296):lerp_At (a,b,t,())=some (LerpS a b t,0,()):=by
 unfold lerp_At lerp_far LerpS
 dsimp only
 rw[dF (by omega:¬ t<0),dF (by omega:¬ t>4294967296)]
 simp only[bnd_mk,cnd_t,cnd_f,Bool.not_false]
 by_cases h:a<=b
 ·rw[dT h,if_pos h,cnd_t,show wr .u64 (wr .u64 b-wr .u64 a)=b-a by rw[wru_mod,wru_mod,wru_mod];omega,p_scaled (b-a) t (by omega) (by omega) t0 t1,bnd_mk]
  have hb:Rd ((b-a)*t) 4294967296<=b-a:=rd_bound (by omega) (Int.mul_le_mul_of_nonneg_left t1 (by omega))
  have hb0:=rd_nonneg (n:=(b-a)*t) (d:=4294967296) (by omega) (Int.mul_nonneg (by omega) t0)
  generalize Rd ((b-a)*t) 4294967296=x at *
  congr 2
  rw[wru_mod,wru_mod]
  simp only[wr,IntKind.wrap,IntKind.signed,IntKind.bits,Bool.true_and,if_true]
  split<;>(simp at *;omega)
 ·rw[dF h,if_neg h,cnd_f,show wr .u64 (wr .u64 a-wr .u64 b)=a-b by rw[wru_mod,wru_mod,wru_mod];omega,p_scaled (a-b) t (by omega) (by omega) t0 t1,bnd_mk]
  have hb:Rd ((a-b)*t) 4294967296<=a-b:=rd_bound (by omega) (Int.mul_le_mul_of_nonneg_left t1 (by omega))
  have hb0:=rd_nonneg (n:=(a-b)*t) (d:=4294967296) (by omega) (Int.mul_nonneg (by omega) t0)
  generalize Rd ((a-b)*t) 4294967296=x at *
  congr 2
  rw[wru_mod,wru_mod]
  simp only[wr,IntKind.wrap,IntKind.signed,IntKind.bits,Bool.true_and,if_true]
  split<;>(simp at *;omega)
def tm(x y:Int):Int:=Rd (x*y) 4294967296
theorem tm_range{x y:Int} (x0:0<=x) (x1:x<=4294967296) (y0:0<=y) (y1:y<=4294967296):0<=tm x y/\tm x y<=4294967296:=by
 refine⟨rd_nonneg (by omega) (Int.mul_nonneg x0 y0),rd_bound (by omega) ?_⟩
 have h1:x*y<=4294967296*y:=Int.mul_le_mul_of_nonneg_right x1 y0
 omega
theorem tm_mono{x y x' y':Int} (x0:0<=x) (y0:0<=y) (hx:x<=x') (hy:y<=y'):tm x y<=tm x' y':=by
 refine rd_mono (by omega) ?_
 have h1:x*y<=x'*y:=Int.mul_le_mul_of_nonneg_right hx y0
 have h2:x'*y<=x'*y':=Int.mul_le_mul_of_nonneg_left hy (by omega)
 omega
theorem mul_nn(x y:Int) (x0:0<=x) (x1:x<=4503599627370496) (y0:0<=y) (y1:y<=4294967296):MulS x y=(tm x y,0,()):=by
 unfold MulS Abs tm
 rw[if_neg (by omega),if_neg (by omega),dF (by omega:¬ x<0),dF (by omega:¬ y<0)]
 have h1:x*y<=4503599627370496*4294967296:=by
  have h1:x*y<=4503599627370496*y:=Int.mul_le_mul_of_nonneg_right x1 y0
  omega
 have hb:Rd (x*y) 4294967296<=4503599627370496:=rd_bound (by omega) h1
 unfold Sg
 rw[if_neg (by omega)]
 rfl
theorem and_one{n:Int} (h0:0<=n) (h1:n<9223372036854775808):bitI .and .i64 n 1=n % 2:=by
 have e:(BitVec.ofInt 64 n &&& BitVec.ofInt 64 1).toNat=(n % 2).toNat:=by
  rw[BitVec.toNat_and,BitVec.toNat_ofInt,BitVec.toNat_ofInt]
  rw[show((1:Int) % ((2 ^ 64:Nat):Int)).toNat=2 ^ 1-1 from rfl,Nat.and_two_pow_sub_one_eq_mod]
  rw[show((2 ^ 64:Nat):Int)=18446744073709551616 from rfl]
  omega
 show wr .i64 ((BitVec.ofInt 64 n &&& BitVec.ofInt 64 1).toNat:Int)=_
 rw[e,wr_id (by omega) (by omega)]
 omega
def powF:Nat->Nat->Int->Int->Int
 | 0,_,_,r=>r
 | f+1,n,x,r=>if n=0 then r else powF f (n / 2) (tm x x) (if n % 2=1 then tm r x else r)
theorem powF_mono:∀ (f n:Nat) {x r x' r':Int},0<=x->x<=x'->x'<=4294967296->0<=r->r<=r'->r'<=4294967296->0<=powF f n x r/\powF f n x r<=powF f n x' r'/\powF f n x' r'<=4294967296
 | 0,n,x,r,x',r',_,_,_,h1,h2,h3=>⟨h1,h2,h3⟩
 | f+1,n,x,r,x',r',x0,x1,x2,r0,r1,r2=>by
  simp only[powF]
  by_cases hn:n=0
  ·simp only[hn,if_true];exact⟨r0,r1,r2⟩
  ·simp only[hn,if_false]
   have t1:=tm_range x0 (by omega:x<=4294967296) x0 (by omega:x<=4294967296)
   have t2:=tm_mono x0 x0 x1 x1
   have t3:=tm_range (by omega:0<=x') x2 (by omega:0<=x') x2
   by_cases hb:n % 2=1
   ·simp only[hb,if_true]
    exact powF_mono f (n / 2) t1.1 t2 t3.2 (tm_range r0 (by omega) x0 (by omega)).1 (tm_mono r0 x0 r1 x1) (tm_range (by omega) r2 (by omega) x2).2
   ·simp only[hb,if_false]
    exact powF_mono f (n / 2) t1.1 t2 t3.2 r0 r1 r2
theorem p_powtimes(x y:Int) (x0:0<=x) (x1:x<=4294967296) (y0:0<=y) (y1:y<=4294967296):pow_times (x,y,())=some (tm x y):=by
 unfold pow_times
 dsimp only
 rw[p_fixmul x y (by omega) (by omega) (by omega) (by omega),mul_nn x y x0 (by omega) y0 y1]
 rfl
theorem p_pow(x:Int) (n:Nat) (x0:0<=x) (x1:x<=4294967296) (hn:n<=1099511627776):pow_Of (x,(n:Int),())=some (powF 64 n x 4294967296,0,()):=by
 have key:∀ (f n:Nat) (x r:Int),n<2 ^ f->n<=1099511627776->0<=x->x<=4294967296->0<=r->r<=4294967296->loopP (fun(s5:Int×Int×Int×Unit)=>cnd (decide (s5.2.1>0)) (bnd (cnd (decide ((bitI .and .i64 s5.2.1 1)=1)) (bnd (pow_times (s5.2.2.1,s5.1,())) fun r7=>some (r7,())) (some (s5.2.2.1,()))) fun j6=>bnd (pow_times (s5.1,s5.1,())) fun r8=>inlE (r8,Int.fdiv s5.2.1 (2 ^ 1),j6.1,())) (inrE (some (s5.2.2.1,())))) (x,(n:Int),r,())=some (powF f n x r,()):=by
  intro f
  induction f with
  | zero =>
   intro n x r h _ _ _ _ _
   have:n=0:=by omega
   subst this
   exact loopP_done (by rfl)
  | succ f ih =>
   intro n x r h hn x0 x1 r0 r1
   by_cases hz:n=0
   ·subst hz
    exact loopP_done (by rfl)
   ·have t1:=tm_range x0 x1 x0 x1
    have t2:=tm_range r0 r1 x0 x1
    rw[loopP_step (s':=(tm x x,((n / 2:Nat):Int),(if n % 2=1 then tm r x else r),()))]
    ·simp only[powF,hz,if_false]
     by_cases hb:n % 2=1
     ·rw[if_pos hb]
      have e:=ih (n / 2) (tm x x) (tm r x) (by rw[Nat.pow_succ] at h;omega) (by omega) t1.1 t1.2 t2.1 t2.2
      exact e
     ·rw[if_neg hb]
      have e:=ih (n / 2) (tm x x) r (by rw[Nat.pow_succ] at h;omega) (by omega) t1.1 t1.2 r0 r1
      exact e
    ·dsimp only
     rw[dT (by omega:(n:Int)>0),cnd_t,and_one (by omega) (by omega),p_powtimes x x x0 x1 x0 x1,p_powtimes r x r0 r1 x0 x1,show(2:Int) ^ 1=2 from rfl,fdiv_pos 2 (by omega)]
     by_cases hb:n % 2=1
     ·rw[if_pos hb,dT (by omega:(n:Int) % 2=1)]
      simp only[bnd_mk,cnd_t,inlE]
      rfl
     ·rw[if_neg hb,dF (by omega:¬ (n:Int) % 2=1)]
      simp only[bnd_mk,cnd_f,inlE]
      rfl
 unfold pow_Of pow_may
 dsimp only
 rw[dT (by omega:x>=0),dT x1,dF (by omega:¬ (n:Int)<0),dF (by omega:¬ (n:Int)>1099511627776)]
 simp only[bnd_mk,cnd_t,cnd_f,Bool.not_false,Bool.not_true]
 have e:=key 64 n x 4294967296 (by omega) hn x0 x1 (by omega) (by omega)
 rw[e]
 rfl
end Go.Proofs.YtmomjjgokeffnaaGreat.F
namespace Go.Proofs.YtmomjjgokeffnaaGreat.F
open Go.VX
open Classical
abbrev EvD:=Int×Int×Int×Unit
abbrev RdD:=Bool×Int×Unit
abbrev zRd:RdD:=(false,0,())
abbrev InD:=List RdD×List Int×Unit
abbrev RuleD:=Bool×Int×Bool×Unit
abbrev SumD:=Int×List Int×Unit
def BadS(b:Int):Int:=if b<0 then 1 else if b<1099511627776 then b+1 else 1099511627776
def DelS(r:RuleD):Int:=if r.2.1<0 then 0 else r.2.1
def GapV(best:Int) (r:RuleD):Int×Int×Unit:=if r.2.2.1=true then MulS (if Abs best=9223372036854775808 then 9223372036854775807 else Abs best) (DelS r) else(DelS r,0,())
def IsB(x best:Int) (r:RuleD):Prop:=(if r.1=true then best<x else x<best)/\(GapV best r).2.1=0/\(GapV best r).1<Abs (x-best)
noncomputable def TakeW(w:WatchD) (x:Int) (r:RuleD):WatchD:=if w.1=false\/IsB x w.2.1 r then(true,x,0,()) else(w.1,w.2.1,BadS w.2.2.1,())
noncomputable def TakeC(c:CutSD) (x:Int) (cu:CutD):CutSD×Bool :=
 if 0<c.2.1 then((((TakeW c.1 x (cu.2.2.1,cu.2.2.2.2.2.2.2.1,false,())).1,(TakeW c.1 x (cu.2.2.1,cu.2.2.2.2.2.2.2.1,false,())).2.1,0,()),c.2.1-1,c.2.2.1,()),false)
 else if cu.2.2.2.2.1<1\/(TakeW c.1 x (cu.2.2.1,cu.2.2.2.2.2.2.2.1,false,())).2.2.1<cu.2.2.2.2.1 then((TakeW c.1 x (cu.2.2.1,cu.2.2.2.2.2.2.2.1,false,()),c.2.1,c.2.2.1,()),false)
 else((((TakeW c.1 x (cu.2.2.1,cu.2.2.2.2.2.2.2.1,false,())).1,(TakeW c.1 x (cu.2.2.1,cu.2.2.2.2.2.2.2.1,false,())).2.1,0,()),cu.2.2.2.2.2.1,(MulS c.2.2.1 cu.2.2.2.1).1,()),true)
noncomputable def PutS(most:Bool) (c:Int) (l:List KpD) (x:KpD):List KpD×KpD×Bool×Unit:=if(l.length:Int)+1<=c then(putL' most l x,(0,0,()),false,()) else((putL' most l x).take l.length,nth zKp (putL' most l x) l.length,true,())
noncomputable def evG(c:Nat->Prop) (step kind:Int):Nat->List EvD
 | 0=>[]
 | k+1=>evG c step kind k++if c k then [(step,kind,(k:Int),())] else []
theorem evG_len(c:Nat->Prop) (step kind:Int):∀ k,(evG c step kind k).length<=k
 | 0=>Nat.le_refl _
 | k+1=>by
  have:=evG_len c step kind k
  simp only[evG,List.length_append]
  split<;>simp<;>omega
def Seen(l:List RdD) (at':Int):Prop:=0<=at'/\(nth zRd l at'.toNat).1=true
def valR(l:List RdD) (at':Int):Int:=(nth zRd l at'.toNat).2.1
def SumFail(sw:SumD) (w:List Int):Prop:=sw.1≠0/\∃ i,i<w.length/\¬ In64 (nth 0 sw.2.1 i+nth 0 w i)
noncomputable def SumS(sw:SumD) (w:List Int):SumD:=(sw.1+1,if sw.1=0 then w else(List.range w.length).map fun i=>nth 0 sw.2.1 i+nth 0 w i,())
noncomputable def EmaS(avg w:List Int) (d:Int):List Int:=if avg.length=0 then w else(List.range w.length).map fun i=>LerpS (nth 0 w i) (nth 0 avg i) d
def phN:List SpanD->Int->Nat
 | [],_=>0
 | t::r,step=>if step<t.2.1 then 0 else phN r step+1
section
variable (p:PlanD) (s:StateD) (x:InD)
def LkN:Prop:=LookedP p.2.2.2.2.1 s.1
def KeN:Prop:=LkN p s/\Seen x.1 p.2.2.2.2.2.2.2.2.2.2.2.2.2.2.1
noncomputable def putN:List KpD×KpD×Bool×Unit:=PutS p.2.2.2.2.2.2.2.2.2.2.1.2.2.1 p.2.2.2.2.2.2.2.2.2.2.1.2.2.2.1 s.2.2.2.2.2.1 (s.1,valR x.1 p.2.2.2.2.2.2.2.2.2.2.2.2.2.2.1,())
noncomputable def keptN:List KpD:=if KeN p s x then(putN p s x).1 else s.2.2.2.2.2.1
def CuN:Prop:=LkN p s/\Seen x.1 p.2.2.2.2.2.2.2.2.2.2.2.2.2.1
noncomputable def cutR:CutSD×Bool:=TakeC s.2.2.2.2.1 (valR x.1 p.2.2.2.2.2.2.2.2.2.2.2.2.2.1) p.2.2.2.2.2.2.2.2.2.1
noncomputable def cutN:CutSD:=if CuN p s x then(cutR p s x).1 else s.2.2.2.2.1
def StN:Prop:=LkN p s/\Seen x.1 p.2.2.2.2.2.2.2.2.2.2.2.2.1
noncomputable def stopN:WatchD:=if StN p s x then TakeW s.2.2.2.1 (valR x.1 p.2.2.2.2.2.2.2.2.2.2.2.2.1) (p.2.2.2.2.2.2.2.2.1.2.2.1,p.2.2.2.2.2.2.2.2.1.2.2.2.2.1,p.2.2.2.2.2.2.2.2.1.2.2.2.2.2.1,()) else s.2.2.2.1
def OutN:Prop:=StN p s x/\p.2.2.2.2.2.2.2.2.1.2.2.2.1<=(stopN p s x).2.2.1
def SwN:Prop:=SwaP p.2.2.2.2.2.2.2.2.2.2.2.2.2.2.2.1 p.2.2.2.2.2.2.2.2.2.2.2.2.2.2.2.2.1 s.1
def FailN:Prop:=SwN p s/\SumFail s.2.2.2.2.2.2.2.1 x.2.1
noncomputable def swaN:SumD:=if SwN p s then SumS s.2.2.2.2.2.2.2.1 x.2.1 else s.2.2.2.2.2.2.2.1
noncomputable def emaN:List Int:=if p.2.2.2.2.2.2.2.2.2.2.2.1.1=true then EmaS s.2.2.2.2.2.2.1 x.2.1 p.2.2.2.2.2.2.2.2.2.2.2.1.2.1 else s.2.2.2.2.2.2.1
noncomputable def StT:StateD :=
 if FailN p s x then(s.1+1,3,s.1,s.2.2.2.1,s.2.2.2.2.1,s.2.2.2.2.2.1,s.2.2.2.2.2.2.1,s.2.2.2.2.2.2.2.1,())
 else(s.1+1,if OutN p s x then 2 else if s.1+1=p.1 then 1 else 0,if OutN p s x then s.1 else if s.1+1=p.1 then s.1 else s.2.2.1,stopN p s x,cutN p s x,keptN p s x,emaN p s x,swaN p s x,())
end
theorem watch_up{w:WatchD} {a b:Int} (h:WatchOk w a) (hab:a<=b):WatchOk w b:=by
 rcases h with h | h
 ·exact .inl h
 ·exact .inr ⟨h.1,h.2.1,h.2.2.1,by omega⟩
theorem take_ok(w:WatchD) (x:Int) (r:RuleD) (a:Int) (h0:0<=a) (h:WatchOk w a):WatchOk (TakeW w x r) (a+1):=by
 unfold TakeW
 by_cases k:w.1=false\/IsB x w.2.1 r
 ·rw[if_pos k]
  exact .inr ⟨rfl,by dsimp only;omega,by dsimp only;omega,by dsimp only;omega⟩
 ·rw[if_neg k]
  rcases h with h | h
  ·exact(k (.inl h.1)).elim
  ·refine .inr ⟨h.1,?_,?_,?_⟩<;>dsimp only<;>unfold BadS<;>split<;>(try split)<;>omega
theorem take_has(w:WatchD) (x:Int) (r:RuleD):(TakeW w x r).1=true:=by
 unfold TakeW
 by_cases k:w.1=false\/IsB x w.2.1 r
 ·rw[if_pos k]
 ·rw[if_neg k]
  dsimp only
  cases hw:w.1
  ·exact(k (.inl hw)).elim
  ·rfl
theorem watch_zero{w:WatchD} {a:Int} (h:WatchOk w a) (h0:0<a) (hw:w.1=true):WatchOk (w.1,w.2.1,0,()) a:=.inr ⟨hw,by dsimp only;omega,by dsimp only;omega,by dsimp only;omega⟩
def CutGood(cu:CutD) (a:Int) (c:CutSD):Prop:=CutStOk c/\WatchOk c.1 a/\c.1.2.2.1<cu.2.2.2.2.1/\c.2.1<=cu.2.2.2.2.2.1
theorem cutst_mk(w:WatchD) (r sc:Int) (hw:w.1=true) (h0:0<=r) (h1:r<=1099511627776) (h2:0<=w.2.2.1) (h3:w.2.2.1<=1099511627776) (h4:0<=sc) (h5:sc<=4294967296):CutStOk (w,r,sc,()) :=
 ⟨fun h=>by have:=h.1;dsimp only at this;rw[hw] at this;exact Bool.noConfusion this,h0,h1,h2,h3,h4,h5⟩
theorem cut_good(cu:CutD) (a:Int) (c:CutSD) (x:Int) (h0:0<=a) (hp:1<=cu.2.2.2.2.1) (hf0:0<=cu.2.2.2.1) (hf:cu.2.2.2.1<4294967296) (hc0:0<=cu.2.2.2.2.2.1) (hc:cu.2.2.2.2.2.1<=1099511627776) (h:CutGood cu a c):CutGood cu (a+1) (TakeC c x cu).1:=by
 obtain⟨⟨c1,c2,c3,c4,c5,c6,c7⟩,hw,hb,hr⟩:=h
 have ht:=take_ok c.1 x (cu.2.2.1,cu.2.2.2.2.2.2.2.1,false,()) a h0 hw
 have hh:=take_has c.1 x (cu.2.2.1,cu.2.2.2.2.2.2.2.1,false,())
 unfold TakeC
 generalize TakeW c.1 x (cu.2.2.1,cu.2.2.2.2.2.2.2.1,false,())=w at *
 have hb2:0<=w.2.2.1/\w.2.2.1<=1099511627776:=by
  rcases ht with k | k
  ·rw[k.1] at hh;exact Bool.noConfusion hh
  ·exact⟨k.2.1,k.2.2.1⟩
 by_cases k1:0<c.2.1
 ·rw[if_pos k1]
  exact⟨cutst_mk _ _ _ hh (by omega) (by omega) (by dsimp only;omega) (by dsimp only;omega) c6 c7,watch_zero ht (by omega) hh,by dsimp only;omega,by dsimp only;omega⟩
 rw[if_neg k1]
 by_cases k2:cu.2.2.2.2.1<1\/w.2.2.1<cu.2.2.2.2.1
 ·rw[if_pos k2]
  exact⟨cutst_mk _ _ _ hh (by omega) (by omega) hb2.1 hb2.2 c6 c7,ht,by dsimp only;omega,hr⟩
 rw[if_neg k2]
 have hm:=mul_nn c.2.2.1 cu.2.2.2.1 c6 (by omega) hf0 (by omega)
 have ht2:=tm_range c6 c7 hf0 (by omega:cu.2.2.2.1<=4294967296)
 rw[hm]
 exact⟨cutst_mk _ _ _ hh hc0 hc (by dsimp only;omega) (by dsimp only;omega) ht2.1 ht2.2,watch_zero ht (by omega) hh,by dsimp only;omega,by dsimp only;omega⟩
theorem putL_mem(most:Bool) (l:List KpD) (x:KpD) (p:Nat) (h:p<l.length+1):nth zKp (putL' most l x) p=x\/∃ q,q<l.length/\nth zKp (putL' most l x) p=nth zKp l q:=by
 have hle:=atS_le most x l
 rw[putL_nth]
 by_cases c1:p<atS most x l
 ·rw[if_pos c1];exact .inr ⟨p,by omega,rfl⟩
 ·rw[if_neg c1]
  by_cases c2:p=atS most x l
  ·rw[if_pos c2];exact .inl rfl
  ·rw[if_neg c2];exact .inr ⟨p-1,by omega,rfl⟩
theorem put_kstep(most:Bool) (l:List KpD) (x:KpD) (hk:∀ i,i<l.length->KStep most l i) (hx:∀ i,i<l.length->(nth zKp l i).1<x.1):∀ i,i<l.length+1->KStep most (putL' most l x) i:=by
 intro i hi
 have hle:=atS_le most x l
 have hno:=atS_no most x l
 constructor
 ·intro k hki
  rw[putL_nth,putL_nth]
  by_cases c1:i<atS most x l
  ·rw[if_pos c1,if_pos (by omega)]
   exact(hk i (by omega)).1 k hki
  rw[if_neg c1]
  by_cases c2:i=atS most x l
  ·rw[if_pos c2,if_pos (by omega)]
   have:=hx k (by omega)
   omega
  rw[if_neg c2]
  by_cases c3:k<atS most x l
  ·rw[if_pos c3]
   exact(hk (i-1) (by omega)).1 k (by omega)
  rw[if_neg c3]
  by_cases c4:k=atS most x l
  ·rw[if_pos c4]
   have:=hx (i-1) (by omega)
   omega
  rw[if_neg c4]
  exact(hk (i-1) (by omega)).1 (k-1) (by omega)
 ·intro h0
  rw[putL_nth,putL_nth]
  by_cases c1:i<atS most x l
  ·rw[if_pos c1,if_pos (by omega)]
   exact(hk i (by omega)).2 h0
  rw[if_neg c1]
  by_cases c2:i=atS most x l
  ·rw[if_pos c2,if_pos (by omega)]
   refine⟨hno (i-1) (by omega),fun k=>?_⟩
   have:=hx (i-1) (by omega)
   omega
  rw[if_neg c2]
  by_cases c3:i-1=atS most x l
  ·rw[if_neg (by omega),if_pos c3,c3]
   have hy:=atS_yes most x l (by omega)
   generalize nth zKp l (atS most x l)=y at *
   unfold AheadB at *
   refine⟨fun k=>?_,fun k=>?_⟩
   ·cases most
    ·rw[if_neg Bool.false_ne_true] at *;omega
    ·rw[if_pos rfl] at *;omega
   ·cases most
    ·rw[if_neg Bool.false_ne_true] at *;omega
    ·rw[if_pos rfl] at *;omega
  rw[if_neg (by omega),if_neg c3]
  exact(hk (i-1) (by omega)).2 (by omega)
theorem nth_take{α:Type} (z:α) (l:List α) (n i:Nat) (h:i<n):nth z (l.take n) i=nth z l i:=by
 simp [nth,List.getD,List.getElem?_take,h]
theorem kstep_take(most:Bool) (l:List KpD) (n i:Nat) (h:i<n):KStep most (l.take n) i↔KStep most l i:=by
 unfold KStep
 rw[nth_take _ _ _ _ h]
 constructor
 ·rintro⟨h1,h2⟩
  refine⟨fun k hk=>?_,fun h0=>?_⟩
  ·have:=h1 k hk
   rwa [nth_take _ _ _ _ (by omega)] at this
  ·have:=h2 h0
   rwa [nth_take _ _ _ _ (by omega)] at this
 ·rintro⟨h1,h2⟩
  refine⟨fun k hk=>?_,fun h0=>?_⟩
  ·rw[nth_take _ _ _ _ (by omega)];exact h1 k hk
  ·rw[nth_take _ _ _ _ (by omega)];exact h2 h0
theorem put_ok(most:Bool) (c:Int) (l:List KpD) (x:KpD) (hk:KeptOk l c most) (hx:∀ i,i<l.length->(nth zKp l i).1<x.1) :
  KeptOk (PutS most c l x).1 c most/\(PutS most c l x).1.length<=l.length+1/\∀ i,i<(PutS most c l x).1.length->nth zKp (PutS most c l x).1 i=x\/∃ q,q<l.length/\nth zKp (PutS most c l x).1 i=nth zKp l q:=by
 have h1:=put_kstep most l x hk.1 hx
 have hl:=putL_len most l x
 have h2:=hk.2
 unfold PutS
 by_cases hc:(l.length:Int)+1<=c
 ·rw[if_pos hc]
  dsimp only
  rw[hl]
  exact⟨⟨fun i hi=>h1 i (by omega),by omega⟩,by omega,fun i hi=>putL_mem most l x i (by omega)⟩
 ·rw[if_neg hc]
  dsimp only
  have hlt:((putL' most l x).take l.length).length=l.length:=by rw[List.length_take,hl];omega
  rw[hlt]
  refine⟨⟨fun i hi=>?_,by omega⟩,by omega,fun i hi=>?_⟩
  ·rw[hlt] at hi
   exact(kstep_take most _ _ i hi).2 (h1 i (by omega))
  ·rw[nth_take _ _ _ _ hi]
   exact putL_mem most l x i (by omega)
theorem sumS_len(sw:SumD) (w:List Int):(SumS sw w).2.1.length=w.length:=by
 unfold SumS
 dsimp only
 split
 ·rfl
 ·rw[List.length_map,List.length_range]
theorem emaS_len(a w:List Int) (d:Int):(EmaS a w d).length=w.length:=by
 unfold EmaS
 split
 ·rfl
 ·rw[List.length_map,List.length_range]
theorem sumsF_up(f e:Int) (n:Nat):sumsF f e (n+1)=sumsF f e n+if SwaP f e n then 1 else 0:=rfl
theorem sumsF_first(f e:Int):∀ n:Nat,(n:Int)<=f->sumsF f e n=0
 | 0,_=>rfl
 | n+1,h=>by
  rw[sumsF_up,sumsF_first f e n (by omega),if_neg (fun k=>by have:=k.2.1;omega)]
  rfl
theorem step_ok(p:PlanD) (s:StateD) (x:InD) (hp:PlanOkD p) (hs:StateOkD p s) (hg:s.2.1=0) (hw:(x.2.1.length:Int)=p.2.1) (hn:-1<=p.2.2.2.2.2.2.2.2.2.2.2.2.1):StateOkD p (StT p s x):=by
 obtain⟨a0,a1,a2,a3,a4,sp,fz,tr,st,cu,ke,em,o1,o2,o3,sf,se,_⟩:=p
 obtain⟨step,stat,ended,stop,cut,kept,ema,⟨cnt,sums,_⟩,_⟩:=s
 obtain⟨hh,_,_,_,hst,hcu,hke,hav⟩:=hp
 obtain⟨s1,s2,s3,s4,s5⟩:=hs
 dsimp only at hg hw hn hh hst hcu hke hav s1 s2 s3 s4 s5
 subst hg
 have h1:0<=step/\step<a0/\ended=0/\¬ OutP st o1 (step,0,ended,stop,cut,kept,ema,(cnt,sums,()),()):=by
  rcases s1 with k | k
  ·exact k.2
  ·have:=k.2;dsimp only at this;omega
 obtain⟨g0,g1,g2,g3⟩:=h1
 subst g2
 obtain⟨n,rfl⟩:∃ n:Nat,step=n:=⟨step.toNat,by omega⟩
 unfold HeadOk at hh
 have hT:∀ r,TakenS ((n:Int),(0:Int),r)=n:=fun r=>by unfold TakenS;rw[if_neg (by dsimp only;omega)]
 have hL:∀ r,LooksS a4 ((n:Int),(0:Int),r)=looksF a4 n:=fun r=>by unfold LooksS;rw[hT,Int.toNat_natCast]
 have hup:=looks_up a4 n
 have hnn:=looks_nn a4 n
 unfold StateOkD StateOk
 unfold StT
 by_cases hf:FailN (a0,a1,a2,a3,a4,sp,fz,tr,st,cu,ke,em,o1,o2,o3,sf,se,()) ((n:Int),0,0,stop,cut,kept,ema,(cnt,sums,()),()) x
 ·rw[if_pos hf]
  dsimp only
  have hT3:∀ r,TakenS ((n:Int)+1,(3:Int),r)=n:=fun r=>by unfold TakenS;rw[if_pos rfl];dsimp only;omega
  have hL3:∀ r,LooksS a4 ((n:Int)+1,(3:Int),r)=looksF a4 n:=fun r=>by unfold LooksS;rw[hT3,Int.toNat_natCast]
  have e5:=s5
  unfold StopSt CutSt KeptSt AvgSt StepOkK at *
  simp only[hT,hL,hT3,hL3] at *
  refine⟨.inr ⟨⟨by dsimp only;omega,by dsimp only;omega,by dsimp only;omega⟩,.inr (.inr ⟨rfl,g3,hf.1.1,?_,?_⟩)⟩,s2,s3,s4,s5⟩
  ·have h2:=hf.1.2.1
   have h3:=hf.2.1
   have h4:=s5.2.1
   dsimp only at h2 h3 h4 ⊢
   rw[Int.toNat_natCast] at h4
   by_cases hx:sf<(n:Int)+1-1
   ·exact hx
   ·rw[sumsF_first sf se n (by omega)] at h4
    exact(h3 h4).elim
  ·have:=hf.1.2.2
   dsimp only at this ⊢
   rw[show(n:Int)+1-1-sf=(n:Int)-sf by omega]
   exact this
 rw[if_neg hf]
 dsimp only
 have hstN:∀ q,(q=0\/q=1\/q=2)->∀ r,TakenS ((n:Int)+1,q,r)=n+1:=fun q hq r=>by
  unfold TakenS;rw[if_neg (by dsimp only;omega)]
 obtain⟨q,hq⟩:∃ q:Int,q=(if OutN (a0,a1,a2,a3,a4,sp,fz,tr,st,cu,ke,em,o1,o2,o3,sf,se,()) ((n:Int),0,0,stop,cut,kept,ema,(cnt,sums,()),()) x then 2 else if(n:Int)+1=a0 then 1 else 0):=⟨_,rfl⟩
 have hq3:q=0\/q=1\/q=2:=by
  rw[hq];split
  ·exact .inr (.inr rfl)
  ·split
   ·exact .inr (.inl rfl)
   ·exact .inl rfl
 rw[← hq]
 have hTN:∀ r,TakenS ((n:Int)+1,q,r)=((n+1:Nat):Int):=hstN q hq3
 have hLN:∀ r,LooksS a4 ((n:Int)+1,q,r)=looksF a4 (n+1):=fun r=>by unfold LooksS;rw[hTN,Int.toNat_natCast]
 have hle:looksF a4 n<=looksF a4 (n+1):=by rw[hup];split<;>omega
 refine⟨?_,?_,?_,?_,?_⟩
 ·
  unfold StatusOk OutP
  dsimp only
  unfold OutP at g3
  dsimp only at g3
  by_cases ho:OutN (a0,a1,a2,a3,a4,sp,fz,tr,st,cu,ke,em,o1,o2,o3,sf,se,()) ((n:Int),0,0,stop,cut,kept,ema,(cnt,sums,()),()) x
  ·rw[if_pos ho] at hq
   rw[if_pos ho]
   subst hq
   have hlk:LookedP a4 (n:Int):=ho.1.1
   refine .inr ⟨⟨by omega,by omega,by omega⟩,.inr (.inl ⟨rfl,⟨fun k=>?_,ho.2⟩,(looked_next a4 n hlk.1).2 hlk⟩)⟩
   have h2:=ho.1.2.1
   dsimp only at h2
   omega
  ·rw[if_neg ho] at hq
   rw[if_neg ho]
   have hno:¬ (o1≠-1/\st.2.2.2.1<=(stopN (a0,a1,a2,a3,a4,sp,fz,tr,st,cu,ke,em,o1,o2,o3,sf,se,()) ((n:Int),0,0,stop,cut,kept,ema,(cnt,sums,()),()) x).2.2.1):=by
    rintro⟨k1,k2⟩
    by_cases hN:StN (a0,a1,a2,a3,a4,sp,fz,tr,st,cu,ke,em,o1,o2,o3,sf,se,()) ((n:Int),0,0,stop,cut,kept,ema,(cnt,sums,()),()) x
    ·exact ho ⟨hN,k2⟩
    ·unfold stopN at k2
     rw[if_neg hN] at k2
     exact g3 ⟨k1,k2⟩
   by_cases he:(n:Int)+1=a0
   ·rw[if_pos he] at hq
    rw[if_pos he]
    exact .inr ⟨⟨by omega,by omega,by omega⟩,.inl ⟨hq,he,hno⟩⟩
   ·rw[if_neg he] at hq
    rw[if_neg he]
    exact .inl ⟨hq,by omega,by omega,rfl,hno⟩
 ·
  unfold StopSt at s2 ⊢
  rw[hL] at s2
  rw[hLN]
  dsimp only at s2 ⊢
  unfold stopN
  rcases s2 with k | k
  ·refine .inl ⟨k.1,?_⟩
   rw[if_neg (fun h=>by have:=h.2.1;dsimp only at this;omega)]
   exact k.2
  ·refine .inr ⟨k.1,?_⟩
   by_cases hN:StN (a0,a1,a2,a3,a4,sp,fz,tr,st,cu,ke,em,o1,o2,o3,sf,se,()) ((n:Int),0,0,stop,cut,kept,ema,(cnt,sums,()),()) x
   ·rw[if_pos hN,hup,if_pos (show LookedP a4 (n:Int) from hN.1)]
    exact take_ok _ _ _ _ hnn.1 k.2
   ·rw[if_neg hN]
    exact watch_up k.2 hle
 ·
  unfold CutSt at s3 ⊢
  rw[hL] at s3
  rw[hLN]
  dsimp only at s3 ⊢
  unfold cutN
  rcases s3 with k | k
  ·refine .inl ⟨k.1,?_⟩
   rw[if_neg (fun h=>by have:=h.2.1;dsimp only at this;omega)]
   exact k.2
  ·refine .inr ⟨k.1,?_⟩
   have hc:1<=cu.2.2.2.2.1/\0<=cu.2.2.2.1/\cu.2.2.2.1<4294967296/\0<=cu.2.2.2.2.2.1/\cu.2.2.2.2.2.1<=1099511627776:=by
    unfold CutOk at hcu
    omega
   by_cases hN:CuN (a0,a1,a2,a3,a4,sp,fz,tr,st,cu,ke,em,o1,o2,o3,sf,se,()) ((n:Int),0,0,stop,cut,kept,ema,(cnt,sums,()),()) x
   ·rw[if_pos hN,hup,if_pos (show LookedP a4 (n:Int) from hN.1)]
    exact cut_good cu _ cut _ hnn.1 hc.1 hc.2.1 hc.2.2.1 hc.2.2.2.1 hc.2.2.2.2 k.2
   ·rw[if_neg hN]
    exact⟨k.2.1,watch_up k.2.2.1 hle,k.2.2.2⟩
 ·
  unfold KeptSt StepOkK at s4 ⊢
  rw[hL,hT] at s4
  rw[hLN,hTN]
  dsimp only at s4 ⊢
  unfold keptN
  rcases s4 with k | k
  ·refine .inl ⟨k.1,?_⟩
   rw[if_neg (fun h=>by have:=h.2.1;dsimp only at this;omega)]
   exact k.2
  ·refine .inr ⟨k.1,?_⟩
   by_cases hN:KeN (a0,a1,a2,a3,a4,sp,fz,tr,st,cu,ke,em,o1,o2,o3,sf,se,()) ((n:Int),0,0,stop,cut,kept,ema,(cnt,sums,()),()) x
   ·rw[if_pos hN,hup,if_pos (show LookedP a4 (n:Int) from hN.1)]
    obtain⟨r1,r2,r3⟩:=put_ok ke.2.2.1 ke.2.2.2.1 kept ((n:Int),valR x.1 o3,()) k.2.2.1 (fun i hi=>(k.2.2.2 i hi).2.1)
    unfold putN
    dsimp only
    refine⟨by have:=k.2.1;(try dsimp only at this ⊢);omega,r1,fun i hi=>?_⟩
    rcases r3 i hi with e | ⟨j,hj,e⟩
    ·rw[e]
     exact⟨by dsimp only;omega,by dsimp only;omega,hN.1⟩
    ·rw[e]
     have:=k.2.2.2 j hj
     exact⟨this.1,by have:=this.2.1;(try dsimp only at this ⊢);omega,this.2.2⟩
   ·rw[if_neg hN]
    refine⟨by have:=k.2.1;(try dsimp only at this ⊢);omega,k.2.2.1,fun i hi=>?_⟩
    have:=k.2.2.2 i hi
    exact⟨this.1,by have:=this.2.1;(try dsimp only at this ⊢);omega,this.2.2⟩
 ·
  unfold AvgSt at s5 ⊢
  rw[hT] at s5
  rw[hTN]
  dsimp only at s5 ⊢
  rw[Int.toNat_natCast] at s5 ⊢
  obtain⟨b1,b2,b3⟩:=s5
  have hsn:=sums_nn sf se n
  refine⟨?_,?_,?_⟩
  ·unfold emaN
   dsimp only
   by_cases he:em.1=true
   ·rw[if_pos he,if_pos ⟨he,by omega⟩,emaS_len]
    exact hw
   ·rw[if_neg he,if_neg (fun k=>he k.1),b1,if_neg (fun k=>he k.1)]
  ·unfold swaN
   rw[sumsF_up]
   by_cases hN:SwN (a0,a1,a2,a3,a4,sp,fz,tr,st,cu,ke,em,o1,o2,o3,sf,se,()) ((n:Int),0,0,stop,cut,kept,ema,(cnt,sums,()),())
   ·rw[if_pos hN,if_pos (show SwaP sf se (n:Int) from hN)]
    unfold SumS
    dsimp only
    omega
   ·rw[if_neg hN,if_neg (show ¬ SwaP sf se (n:Int) from hN)]
    dsimp only
    omega
  ·unfold swaN
   rw[sumsF_up]
   by_cases hN:SwN (a0,a1,a2,a3,a4,sp,fz,tr,st,cu,ke,em,o1,o2,o3,sf,se,()) ((n:Int),0,0,stop,cut,kept,ema,(cnt,sums,()),())
   ·rw[if_pos hN,if_pos (show SwaP sf se (n:Int) from hN),sumS_len,if_pos (by omega)]
    exact hw
   ·rw[if_neg hN,if_neg (show ¬ SwaP sf se (n:Int) from hN)]
    dsimp only
    rw[b3,Int.add_zero]
end Go.Proofs.YtmomjjgokeffnaaGreat.F
namespace Go.Proofs.YtmomjjgokeffnaaGreat.F
open Go.VX
open Classical
theorem phN_spec(step:Int):∀ l:List SpanD,(∃ i,i<l.length/\step<(nth zSpan l i).2.1)->phN l step<l.length/\step<(nth zSpan l (phN l step)).2.1/\∀ j,j<phN l step->(nth zSpan l j).2.1<=step
 | [],⟨i,h,_⟩=>by simp at h
 | t::r,⟨i,h,k⟩=>by
  unfold phN
  by_cases c:step<t.2.1
  ·rw[if_pos c]
   exact⟨by simp,c,fun j hj=>by omega⟩
  ·rw[if_neg c]
   have ih:=phN_spec step r (by
    cases i with
    | zero=>exact(c k).elim
    | succ i=>exact⟨i,by rw[List.length_cons] at h;omega,k⟩)
   refine⟨by rw[List.length_cons];omega,ih.2.1,fun j hj=>?_⟩
   cases j with
   | zero=>exact Int.not_lt.1 c
   | succ j=>exact ih.2.2 j (by omega)
theorem planD_phase{p:PlanD} (hp:PlanOkD p) {step:Int} (h0:0<=step) (h1:step<p.1) :
  phN p.2.2.2.2.2.1 step<p.2.2.2.2.2.1.length/\(nth zSpan p.2.2.2.2.2.1 (phN p.2.2.2.2.2.1 step)).1<=step/\step<(nth zSpan p.2.2.2.2.2.1 (phN p.2.2.2.2.2.1 step)).2.1/\∀ j,j<phN p.2.2.2.2.2.1 step->(nth zSpan p.2.2.2.2.2.1 j).2.1<=step:=by
 obtain⟨hh,⟨s1,s2,s3⟩,_⟩:=hp
 unfold HeadOk at hh
 have hl:0<p.2.2.2.2.2.1.length:=by
  by_cases hl:p.2.2.2.2.2.1.length=0
  ·rw[if_pos hl] at s2;omega
  ·omega
 rw[if_neg (by omega)] at s2
 have:=phN_spec step p.2.2.2.2.2.1 ⟨p.2.2.2.2.2.1.length-1,by omega,by rw[s2];exact h1⟩
 refine⟨this.1,?_,this.2⟩
 have hs:=(s1 _ this.1).2
 rw[hs]
 by_cases hz:phN p.2.2.2.2.2.1 step=0
 ·rw[if_pos hz];exact h0
 ·rw[if_neg hz]
  exact this.2.2 _ (by omega)
theorem planD_frozen{p:PlanD} (hp:PlanOkD p):p.2.2.2.2.2.2.1.length=p.2.2.2.2.2.1.length/\∀ i,i<p.2.2.2.2.2.2.1.length->((nth [] p.2.2.2.2.2.2.1 i).length:Int)=p.2.2.2.1:=⟨hp.2.2.1.2,hp.2.2.1.1⟩
theorem planD_groups{p:PlanD} (hp:PlanOkD p):1<=p.2.2.2.1/\p.2.2.2.1<=8/\(p.2.2.2.2.2.2.2.1.length:Int)=3*p.2.2.2.1:=by
 have h2:HeadOk _ _ _ _ _:=hp.1
 unfold HeadOk at h2
 have h1:=hp.2.2.2.1.2
 rw[wr_id (by omega) (by omega)] at h1
 omega
theorem planD_spans{p:PlanD} (hp:PlanOkD p):p.2.2.2.2.2.1.length<=16:=hp.2.1.2.2
def isF(p:PlanD) (n g:Nat):Bool:=nth false (nth [] p.2.2.2.2.2.2.1 n) g
def wasF(p:PlanD) (n g:Nat):Bool:=decide (0<n)&&isF p (n-1) g
def begN(p:PlanD) (step:Int) (n:Nat):Prop:=(nth zSpan p.2.2.2.2.2.1 n).1=step
noncomputable def evB(p:PlanD) (step:Int) (n:Nat):List EvD :=
 if begN p step n then [(step,1,(n:Int),())]++(evG (fun g=>isF p n g=false/\wasF p n g=true) step 2 p.2.2.2.1.toNat++evG (fun g=>isF p n g=true/\wasF p n g=false) step 3 p.2.2.2.1.toNat) else []
section
variable (p:PlanD) (s:StateD) (x:InD)
def missN(m:Nat):Prop:=(p.2.2.2.2.2.2.2.2.2.2.2.2.2.2.1=(m:Int)\/p.2.2.2.2.2.2.2.2.2.2.2.2.2.1=(m:Int)\/p.2.2.2.2.2.2.2.2.2.2.2.2.1=(m:Int))/\(nth zRd x.1 m).1=false
noncomputable def evM:List EvD:=if LkN p s then evG (missN p x) s.1 6 x.1.length else []
noncomputable def evK:List EvD:=if KeN p s x/\¬ ((putN p s x).2.2.1=true/\(putN p s x).2.1.1=s.1) then [(s.1,7,s.1,())] else []
noncomputable def evD:List EvD:=if KeN p s x/\(putN p s x).2.2.1=true/\(putN p s x).2.1.1≠s.1 then [(s.1,8,(putN p s x).2.1.1,())] else []
noncomputable def evC:List EvD:=if CuN p s x/\(cutR p s x).2=true then [(s.1,9,0,())] else []
noncomputable def evS:List EvD:=if OutN p s x then [(s.1,10,0,())] else []
noncomputable def evE:List EvD:=if s.1+1=p.1 then [(s.1,11,0,())] else []
noncomputable def evW:List EvD:=if SwN p s then [(s.1,4,s.2.2.2.2.2.2.2.1.1,())] else []
noncomputable def EvT:List EvD:=evB p s.1 (phN p.2.2.2.2.2.1 s.1)++if FailN p s x then [(s.1,5,0,())] else evW p s++(evM p s x++(evK p s x++(evD p s x++(evC p s x++(evS p s x++evE p s)))))
end
section
variable (p:PlanD) (s:StateD) (x:InD)
end
section
variable (p:PlanD) (s:StateD) (x:InD)
end
theorem len_if1{α:Type} (P:Prop) {_:Decidable P} (a:α):(if P then [a] else []).length<=1:=by split<;>simp
theorem evB_len(p:PlanD) (hp:PlanOkD p) (step:Int) (n:Nat):(evB p step n).length<=17:=by
 have hg:=planD_groups hp
 unfold evB
 split
 ·rw[List.length_append,List.length_append]
  have h1:=evG_len (fun g=>isF p n g=false/\wasF p n g=true) step 2 p.2.2.2.1.toNat
  have h2:=evG_len (fun g=>isF p n g=true/\wasF p n g=false) step 3 p.2.2.2.1.toNat
  simp only[List.length_singleton]
  omega
 ·simp
theorem evM_len(p:PlanD) (s:StateD) (x:InD):(evM p s x).length<=x.1.length:=by
 unfold evM
 split
 ·exact evG_len _ _ _ _
 ·simp
end Go.Proofs.YtmomjjgokeffnaaGreat.F
namespace Go.Proofs.YtmomjjgokeffnaaGreat.F
open Go.VX
theorem p_at(c:CurveD) (i n:Int) (hc:CurveOk c) (n0:1<=n) (n1:n<=1048576) (i0:0<=i) (i1:i<n):curve_At (c,i,n,())=(bnd (lerp_Share (i,n,())) fun r6=>cnd (decide (c.1=4)) (bnd (curve_fading (c,i,())) fun r7=>some (r7,0,())) (cnd (decide (c.1=2)) (bnd (lerp_At (c.2.1,c.2.2.1,r6.1,())) fun r8=>some (r8.1,r8.2.1,())) (bnd (curve_weight (c,r6.1,())) fun r9=>bnd (lerp_At (c.2.2.1,c.2.1,r9,())) fun r10=>some (r10.1,r10.2.1,())))):=by
 unfold curve_At curve_within
 dsimp only
 rw[p_curve,if_pos hc,dT (by omega:n>=1),dT (by omega:n<=1048576),wr_id (x:=n-1) (by omega) (by omega),dT (by omega:i>=0),dT (by omega:i<=n-1)]
 rfl
def ShareS(i n:Int):Int:=if n=1 then 0 else Rd (i*4294967296) (n-1)
theorem p_shareS(i n:Int) (n0:1<=n) (n1:n<=1048576) (i0:0<=i) (i1:i<n):lerp_Share (i,n,())=some (ShareS i n,0,()):=by
 unfold ShareS
 by_cases h:n=1
 ·have:i=0:=by omega
  subst this
  subst h
  rfl
 ·rw[if_neg h];exact p_share i n i0 i1 (by omega) (by omega)
theorem shareS_range(i n:Int) (n0:1<=n) (i0:0<=i) (i1:i<n):0<=ShareS i n/\ShareS i n<=4294967296:=by
 unfold ShareS
 by_cases h:n=1
 ·rw[if_pos h];omega
 ·rw[if_neg h]
  exact⟨rd_nonneg (by omega) (by omega),rd_bound (by omega) (by omega)⟩
theorem p_at2(c:CurveD) (i n:Int) (hc:CurveOk c) (n0:1<=n) (n1:n<=1048576) (i0:0<=i) (i1:i<n) (hk:c.1=2):curve_At (c,i,n,())=some (LerpS c.2.1 c.2.2.1 (ShareS i n),0,()):=by
 have hc':=hc
 unfold CurveOk at hc'
 have ht:=shareS_range i n n0 i0 i1
 rw[p_at c i n hc n0 n1 i0 i1,p_shareS i n n0 n1 i0 i1,bnd_mk,dF (by omega:¬ c.1=4),dT hk,cnd_f,cnd_t]
 dsimp only
 rw[p_lerp _ _ _ (by omega) (by omega) (by omega) (by omega) ht.1 ht.2]
 rfl
def PowS(x n:Int):Int:=powF 64 n.toNat x 4294967296
theorem p_powS(x n:Int) (x0:0<=x) (x1:x<=4294967296) (n0:0<=n) (n1:n<=1099511627776):pow_Of (x,n,())=some (PowS x n,0,()):=by
 obtain⟨k,rfl⟩:∃ k:Nat,n=k:=⟨n.toNat,by omega⟩
 exact p_pow x k x0 x1 (by omega)
theorem powS_mono(n:Int) {x x':Int} (x0:0<=x) (h:x<=x') (x1:x'<=4294967296):0<=PowS x n/\PowS x n<=PowS x' n/\PowS x' n<=4294967296:=powF_mono 64 n.toNat x0 h x1 (by omega) (by omega) (by omega)
theorem p_at3(c:CurveD) (i n:Int) (hc:CurveOk c) (n0:1<=n) (n1:n<=1048576) (i0:0<=i) (i1:i<n) (hk:c.1=3):curve_At (c,i,n,())=some (LerpS c.2.2.1 c.2.1 (PowS (4294967296-ShareS i n) c.2.2.2.1),0,()):=by
 have hc':=hc
 unfold CurveOk at hc'
 have ht:=shareS_range i n n0 i0 i1
 rw[p_at c i n hc n0 n1 i0 i1,p_shareS i n n0 n1 i0 i1,bnd_mk,dF (by omega:¬ c.1=4),dF (by omega:¬ c.1=2),cnd_f,cnd_f]
 dsimp only
 have hw:=powS_mono c.2.2.2.1 (x:=4294967296-ShareS i n) (by omega) (Int.le_refl _) (by omega)
 have e:curve_weight (c,ShareS i n,())=some (PowS (4294967296-ShareS i n) c.2.2.2.1):=by
  unfold curve_weight
  dsimp only
  rw[dT hk,cnd_t,wr_id (by omega) (by omega),p_powS _ _ (by omega) (by omega) (by omega) (by omega)]
  rfl
 rw[e,bnd_mk,p_lerp _ _ _ (by omega) (by omega) (by omega) (by omega) hw.1 hw.2.2]
 rfl
theorem p_at4(c:CurveD) (i n:Int) (hc:CurveOk c) (n0:1<=n) (n1:n<=1048576) (i0:0<=i) (i1:i<n) (hk:c.1=4):curve_At (c,i,n,())=some (if tm c.2.1 (PowS c.2.2.2.1 i)>c.2.2.1 then tm c.2.1 (PowS c.2.2.2.1 i) else c.2.2.1,0,()):=by
 have hc':=hc
 unfold CurveOk at hc'
 rw[p_at c i n hc n0 n1 i0 i1,p_shareS i n n0 n1 i0 i1,bnd_mk,dT hk,cnd_t]
 have hw:=powS_mono i (x:=c.2.2.2.1) (by omega) (Int.le_refl _) (by omega)
 unfold curve_fading
 dsimp only
 rw[p_powS _ _ (by omega) (by omega) (by omega) (by omega),bnd_mk,p_fixmul _ _ (by omega) (by omega) (by omega) (by omega),mul_nn _ _ (by omega) (by omega) hw.1 hw.2.2]
 rfl
end Go.Proofs.YtmomjjgokeffnaaGreat.F
namespace Go.Proofs.YtmomjjgokeffnaaGreat.F
open Go.VX
def Dig(l:List Int):Prop:=∀ d∈l,0<=d/\d<65536
def V:List Int->Int
 | []=>0
 | d::l=>d+65536*V l
theorem dig_nil:Dig []:=fun d h=>by cases h
theorem dig_cons{d:Int} {l:List Int}:Dig (d::l)↔(0<=d/\d<65536)/\Dig l:=by
 simp [Dig]
theorem dig_app{a b:List Int}:Dig (a++b)↔Dig a/\Dig b:=by
 constructor
 ·exact fun h=>⟨fun d hd=>h d (List.mem_append_left _ hd),fun d hd=>h d (List.mem_append_right _ hd)⟩
 ·intro h d hd
  rcases List.mem_append.1 hd with h1 | h1
  ·exact h.1 d h1
  ·exact h.2 d h1
theorem dig_drop{a:List Int} (h:Dig a) (i:Nat):Dig (a.drop i):=fun d hd=>h d (List.mem_of_mem_drop hd)
theorem v_nonneg:∀ {l:List Int},Dig l->0<=V l
 | [],_=>Int.le_refl _
 | d::l,h=>by
  have h1:=(dig_cons.1 h).1
  have h2:=v_nonneg (dig_cons.1 h).2
  simp only[V];omega
theorem pw_pos(n:Nat):(0:Int)<65536 ^ n:=Int.pow_pos (by omega)
theorem v_lt:∀ {l:List Int},Dig l->V l<65536 ^ l.length
 | [],_=>by simp [V]
 | d::l,h=>by
  have h1:=(dig_cons.1 h).1
  have h2:=v_lt (dig_cons.1 h).2
  simp only[V,List.length_cons]
  rw[Int.pow_succ]
  omega
theorem v_app:∀ (a b:List Int),V (a++b)=V a+65536 ^ a.length*V b
 | [],b=>by simp [V]
 | d::l,b=>by
  have h:=v_app l b
  simp only[List.cons_append,V,List.length_cons,h]
  rw[Int.pow_succ]
  grind
theorem nth_lt{a:List Int} (h:Dig a) (i:Nat):0<=nth 0 a i/\nth 0 a i<65536:=by
 by_cases hi:i<a.length
 ·exact h _ (nth_mem hi)
 ·simp [nth,List.getD,hi]
theorem v_drop(a:List Int) (i:Nat):V (a.drop i)=nth 0 a i+65536*V (a.drop (i+1)):=by
 by_cases hi:i<a.length
 ·rw[List.drop_eq_getElem_cons hi]
  simp [V,nth,List.getD,hi]
 ·rw[List.drop_of_length_le (by omega),List.drop_of_length_le (by omega)]
  simp [V,nth,List.getD,hi]
theorem v_end(a:List Int) {i:Nat} (h:a.length<=i):V (a.drop i)=0:=by
 rw[List.drop_of_length_le h];rfl
theorem digit(a:List Int) (i:Nat):q02_digit (a,(i:Int),())=some (nth 0 a i):=by
 unfold q02_digit
 dsimp only
 by_cases h:i<a.length
 ·rw[lt_true h,cnd_t,ati_d 0 h];rfl
 ·rw[dF (by omega),cnd_f]
  simp [nth,List.getD,h]
theorem word(u:Int) (h0:0<=u) (h1:u<18446744073709551616):∃ l,q02_Word (u,())=some l/\Dig l/\V l=u/\l.length=4:=by
 unfold q02_Word
 dsimp only
 rw[Int.tdiv_eq_ediv_of_nonneg h0,Int.tdiv_eq_ediv_of_nonneg h0,Int.tdiv_eq_ediv_of_nonneg h0,Int.tmod_eq_emod_of_nonneg h0,wru_id (x:=u / 65536) (by omega) (by omega),wru_id (x:=u / 4294967296) (by omega) (by omega),wru_id (x:=u / 281474976710656) (by omega) (by omega),Int.tmod_eq_emod_of_nonneg (by omega),Int.tmod_eq_emod_of_nonneg (by omega)]
 refine⟨_,rfl,?_,?_,rfl⟩
 ·simp only[dig_cons]
  refine⟨by omega,by omega,by omega,by omega,dig_nil⟩
 ·simp only[V];omega
theorem size(x:Int) (h0:-9223372036854775808<=x) (h1:x<=9223372036854775807):∃ l,q02_Size (x,())=some l/\Dig l/\V l=Abs x/\l.length=4:=by
 unfold q02_Size Abs
 dsimp only
 by_cases h:x<0
 ·rw[dT h,cnd_t,if_pos h]
  have e:wr .u64 (0-wr .u64 x)=-x:=by rw[wru_mod,wru_mod];omega
  rw[e]
  obtain⟨l,e1,h2⟩:=word (-x) (by omega) (by omega)
  exact⟨l,by rw[e1];rfl,h2⟩
 ·rw[dF h,cnd_f,if_neg h,wru_id (by omega) (by omega)]
  obtain⟨l,e1,h2⟩:=word x (by omega) (by omega)
  exact⟨l,by rw[e1];rfl,h2⟩
theorem plus(a b:List Int) (ha:Dig a) (hb:Dig b) (la:a.length<=1000000) (lb:b.length<=1000000) :
  ∃ l,q02_Plus (a,b,())=some l/\Dig l/\V l=V a+V b/\l.length<=max a.length b.length+1:=by
 unfold q02_Plus
 dsimp only
 obtain⟨r,e,h1,h2,h3⟩:=loop_rule (f:=(fun(s2:List (Int)×Int×Int×Unit)=>bnd (cnd (!(decide (s2.2.2.1<(a.length:Int)))) (some (decide (s2.2.2.1<(b.length:Int)))) (some true)) fun j3=>bnd (cnd (!j3) (some (decide (s2.2.1>0))) (some true)) fun j4=>cnd j4 (bnd (q02_digit (a,s2.2.2.1,())) fun r5=>bnd (q02_digit (b,s2.2.2.1,())) fun r6=>bnd (app 17592186044416 s2.1 [Int.tmod (wr .u64 ((wr .u64 (r5+r6))+s2.2.1)) 65536]) fun v7=>inlE (v7,wr .u64 (Int.tdiv (wr .u64 ((wr .u64 (r5+r6))+s2.2.1)) 65536),wr .i64 (s2.2.2.1+1),())) (inrE (some (s2.1,())))))
  (fun s=>Dig s.1/\0<=s.2.1/\s.2.1<=1/\s.2.2.1=s.1.length/\s.1.length<=max a.length b.length+1/\(s.1.length=max a.length b.length+1->s.2.1=0)/\V s.1+65536 ^ s.1.length*(s.2.1+V (a.drop s.1.length)+V (b.drop s.1.length))=V a+V b)
  (fun s=>max a.length b.length+1-s.1.length) (fun r=>Dig r.1/\V r.1=V a+V b/\r.1.length<=max a.length b.length+1) (fun s ⟨i0,i1,i2,i3,i4,i5,i6⟩=>by
   obtain⟨o,c,i,_⟩:=s
   dsimp only at *
   subst i3
   have da:=nth_lt ha o.length
   have db:=nth_lt hb o.length
   by_cases hc:o.length<a.length\/o.length<b.length\/c>0
   ·left
    have hn1:wr .u64 (nth 0 a o.length+nth 0 b o.length)=nth 0 a o.length+nth 0 b o.length:=wru_id (by omega) (by omega)
    have hn:wr .u64 (nth 0 a o.length+nth 0 b o.length+c)=nth 0 a o.length+nth 0 b o.length+c:=wru_id (by omega) (by omega)
    have hlt:o.length<=max a.length b.length:=by omega
    refine⟨(o++[(nth 0 a o.length+nth 0 b o.length+c) % 65536],(nth 0 a o.length+nth 0 b o.length+c) / 65536,(o.length:Int)+1,()),?_,⟨?_,by dsimp only;omega,by dsimp only;omega,by simp,by simp;omega,?_,?_⟩,by simp;omega⟩
    ·have hg:(bnd (cnd (!(decide ((o.length:Int)<(a.length:Int)))) (some (decide ((o.length:Int)<(b.length:Int)))) (some true)) fun j3=>bnd (cnd (!j3) (some (decide (c>0))) (some true)) fun j4=>some j4)=some true:=by
      by_cases h1:(o.length:Int)<(a.length:Int)
      ·rw[dT h1];rfl
      ·by_cases h2:(o.length:Int)<(b.length:Int)
       ·rw[dF h1,dT h2];rfl
       ·have h3:c>0:=by omega
        rw[dF h1,dF h2,dT h3];rfl
     rw[digit,digit,bnd_mk,bnd_mk,hn1,hn,Int.tmod_eq_emod_of_nonneg (by omega),Int.tdiv_eq_ediv_of_nonneg (by omega),app_ok (by simp;omega),wru_id (x:=(nth 0 a o.length+nth 0 b o.length+c) / 65536) (by omega) (by omega),wr_id (by omega) (by omega)]
     revert hg
     generalize cnd (!(decide ((o.length:Int)<(a.length:Int)))) (some (decide ((o.length:Int)<(b.length:Int)))) (some true)=g
     cases g with
     | none=>intro hg;cases hg
     | some g =>
      rw[bnd_mk,bnd_mk]
      generalize cnd (!g) (some (decide (c>0))) (some true)=g2
      cases g2 with
      | none=>intro hg;cases hg
      | some g2=>intro hg;cases hg;rfl
    ·rw[dig_app]
     exact⟨i0,dig_cons.2 ⟨by omega,dig_nil⟩⟩
    ·dsimp only
     intro hl
     simp at hl
     have e1:nth 0 a o.length=0:=by simp [nth,List.getD,show ¬ o.length<a.length by omega]
     have e2:nth 0 b o.length=0:=by simp [nth,List.getD,show ¬ o.length<b.length by omega]
     rw[e1,e2];omega
    ·dsimp only
     rw[v_app,List.length_append,List.length_singleton,Int.pow_succ,← i6,v_drop a o.length,v_drop b o.length]
     simp only[V]
     generalize nth 0 a o.length=x at *
     generalize nth 0 b o.length=y at *
     generalize (65536:Int) ^ o.length=P
     generalize V (a.drop (o.length+1))=A
     generalize V (b.drop (o.length+1))=B
     have hd:x+y+c=65536*((x+y+c) / 65536)+(x+y+c) % 65536:=by omega
     generalize (x+y+c) / 65536=q at *
     generalize (x+y+c) % 65536=r at *
     grind
   ·right
    have h1:¬ (o.length:Int)<(a.length:Int):=by omega
    have h2:¬ (o.length:Int)<(b.length:Int):=by omega
    have h3:¬ c>0:=by omega
    refine⟨(o,()),by rw[dF h1,dF h2,dF h3];rfl,i0,?_,by dsimp only;omega⟩
    dsimp only
    rw[v_end a (by omega),v_end b (by omega),show c=0 by omega] at i6
    omega) ([],0,0,()) ⟨dig_nil,by simp,by simp,by simp,by simp,by simp,by simp [V]⟩
 rw[e]
 exact⟨r.1,rfl,h1,h2,h3⟩
end Go.Proofs.YtmomjjgokeffnaaGreat.F
namespace Go.Proofs.YtmomjjgokeffnaaGreat.F
open Go.VX
theorem less(a b:List Int) (ha:Dig a) (hb:Dig b) (la:a.length<=1000000) (lb:b.length<=1000000) (hle:V b<=V a) :
  ∃ l,q02_Less (a,b,())=some l/\Dig l/\V l=V a-V b/\l.length=a.length:=by
 unfold q02_Less
 dsimp only
 obtain⟨r,e,h1,h2,h3⟩:=loop_rule (f:=(fun(s2:List (Int)×Int×Int×Unit)=>cnd (decide (s2.2.2.1<(a.length:Int))) (bnd (ati a s2.2.2.1) fun v3=>bnd (q02_digit (b,s2.2.2.1,())) fun r4=>bnd (app 17592186044416 s2.1 [Int.tmod (wr .u64 ((wr .u64 ((wr .u64 (65536+v3))-r4))-s2.2.1)) 65536]) fun v5=>inlE (v5,wr .u64 (1-(wr .u64 (Int.tdiv (wr .u64 ((wr .u64 ((wr .u64 (65536+v3))-r4))-s2.2.1)) 65536))),wr .i64 (s2.2.2.1+1),())) (inrE (some (s2.1,())))))
  (fun s=>Dig s.1/\0<=s.2.1/\s.2.1<=1/\s.2.2.1=s.1.length/\s.1.length<=a.length/\V s.1+65536 ^ s.1.length*(V (a.drop s.1.length)-V (b.drop s.1.length)-s.2.1)=V a-V b)
  (fun s=>a.length-s.1.length) (fun r=>Dig r.1/\V r.1=V a-V b/\r.1.length=a.length) (fun s ⟨i0,i1,i2,i3,i4,i6⟩=>by
   obtain⟨o,c,i,_⟩:=s
   dsimp only at *
   subst i3
   have da:=nth_lt ha o.length
   have db:=nth_lt hb o.length
   by_cases hc:o.length<a.length
   ·left
    have hn1:wr .u64 (65536+nth 0 a o.length)=65536+nth 0 a o.length:=wru_id (by omega) (by omega)
    have hn2:wr .u64 (65536+nth 0 a o.length-nth 0 b o.length)=65536+nth 0 a o.length-nth 0 b o.length:=wru_id (by omega) (by omega)
    have hn:wr .u64 (65536+nth 0 a o.length-nth 0 b o.length-c)=65536+nth 0 a o.length-nth 0 b o.length-c:=wru_id (by omega) (by omega)
    refine⟨(o++[(65536+nth 0 a o.length-nth 0 b o.length-c) % 65536],1-(65536+nth 0 a o.length-nth 0 b o.length-c) / 65536,(o.length:Int)+1,()),?_,⟨?_,by dsimp only;omega,by dsimp only;omega,by simp,by simp;omega,?_⟩,by simp;omega⟩
    ·rw[lt_true hc,cnd_t,ati_d 0 hc,digit,bnd_mk,bnd_mk,hn1,hn2,hn,Int.tmod_eq_emod_of_nonneg (by omega),Int.tdiv_eq_ediv_of_nonneg (by omega),app_ok (by simp;omega),wru_id (x:=(65536+nth 0 a o.length-nth 0 b o.length-c) / 65536) (by omega) (by omega),wru_id (x:=1-(65536+nth 0 a o.length-nth 0 b o.length-c) / 65536) (by omega) (by omega),wr_id (by omega) (by omega)]
     rfl
    ·rw[dig_app]
     exact⟨i0,dig_cons.2 ⟨by omega,dig_nil⟩⟩
    ·dsimp only
     rw[v_app,List.length_append,List.length_singleton,Int.pow_succ,← i6,v_drop a o.length,v_drop b o.length]
     simp only[V]
     generalize nth 0 a o.length=x at *
     generalize nth 0 b o.length=y at *
     generalize (65536:Int) ^ o.length=P
     generalize V (a.drop (o.length+1))=A
     generalize V (b.drop (o.length+1))=B
     have hd:65536+x-y-c=65536*((65536+x-y-c) / 65536)+(65536+x-y-c) % 65536:=by omega
     generalize (65536+x-y-c) / 65536=q at *
     generalize (65536+x-y-c) % 65536=r at *
     grind
   ·right
    have hl:o.length=a.length:=by omega
    refine⟨(o,()),by rw[hl,lt_false];rfl,i0,?_,hl⟩
    dsimp only
    have hv:=v_lt i0
    have hv0:=v_nonneg i0
    have hb2:=v_nonneg (dig_drop hb o.length)
    rw[v_end a (by omega)] at i6
    have hP:=pw_pos o.length
    generalize (65536:Int) ^ o.length=P at *
    generalize V (b.drop o.length)=B at *
    by_cases hz:B+c=0
    ·have:B=0:=by omega
     have:c=0:=by omega
     subst B c
     simp at i6
     exact i6
    ·have h1:P*(0-B-c)<=P*(-1):=Int.mul_le_mul_of_nonneg_left (by omega) (by omega)
     omega) ([],0,0,()) ⟨dig_nil,by simp,by simp,by simp,by simp,by simp [V]⟩
 rw[e]
 exact⟨r.1,rfl,h1,h2,h3⟩
theorem v_split(a:List Int) (i:Nat):∀ b:List Int,V a-V b=V (a.take i)-V (b.take i)+65536 ^ i*(V (a.drop i)-V (b.drop i)):=by
 induction i generalizing a with
 | zero=>intro b;simp [V]
 | succ i ih =>
  intro b
  cases a with
  | nil =>
   cases b with
   | nil=>simp [V]
   | cons y b =>
    have:=ih [] b
    simp only[List.take_nil,List.drop_nil,V,List.take_succ_cons,List.drop_succ_cons] at this ⊢
    rw[Int.pow_succ]
    grind
  | cons x a =>
   cases b with
   | nil =>
    have:=ih a []
    simp only[List.take_nil,List.drop_nil,V,List.take_succ_cons,List.drop_succ_cons] at this ⊢
    rw[Int.pow_succ]
    grind
   | cons y b =>
    have:=ih a b
    simp only[V,List.take_succ_cons,List.drop_succ_cons] at this ⊢
    rw[Int.pow_succ]
    grind
theorem dig_take{a:List Int} (h:Dig a) (i:Nat):Dig (a.take i):=fun d hd=>h d (List.mem_of_mem_take hd)
theorem v_take_lt{a:List Int} (h:Dig a) (i:Nat):V (a.take i)<65536 ^ i:=by
 have h1:=v_lt (dig_take h i)
 have h2:(65536:Int) ^ (a.take i).length<=65536 ^ i:=by
  have:(a.take i).length<=i:=by simp;omega
  obtain⟨k,hk⟩:∃ k,i=(a.take i).length+k:=⟨i-(a.take i).length,by omega⟩
  generalize (a.take i).length=m at *
  rw[hk,Int.pow_add]
  have h3:=pw_pos m
  have h4:=pw_pos k
  generalize (65536:Int) ^ m=P at *
  generalize (65536:Int) ^ k=Q at *
  have:P*1<=P*Q:=Int.mul_le_mul_of_nonneg_left (by omega) (by omega)
  rw[Int.mul_one] at this
  exact this
 exact Int.lt_of_lt_of_le h1 h2
theorem v_less{a b:List Int} (ha:Dig a) (hb:Dig b) {i:Nat} (hi:nth 0 a i<nth 0 b i) (h:V (a.drop (i+1))=V (b.drop (i+1))):V a<V b:=by
 have h1:=v_split a i b
 rw[v_drop a i,v_drop b i,h] at h1
 have h2:=v_take_lt ha i
 have h3:=v_nonneg (dig_take hb i)
 have hP:=pw_pos i
 generalize (65536:Int) ^ i=P at *
 have h4:P*(nth 0 a i+65536*V (b.drop (i+1))-(nth 0 b i+65536*V (b.drop (i+1))))<=P*(-1):=Int.mul_le_mul_of_nonneg_left (by omega) (by omega)
 omega
theorem cmp(a b:List Int) (ha:Dig a) (hb:Dig b) (la:a.length<=1000000) (lb:b.length<=1000000) :
  q02_Cmp (a,b,())=some (if V a<V b then -1 else if V b<V a then 1 else 0):=by
 unfold q02_Cmp
 dsimp only
 have hm:(bnd (cnd (decide ((b.length:Int)>(a.length:Int))) (some ((b.length:Int),())) (some ((a.length:Int),()))) fun j1:Int×Unit=>some j1.1)=some ((max a.length b.length:Nat):Int):=by
  by_cases h:(b.length:Int)>(a.length:Int)
  ·rw[dT h,cnd_t,bnd_mk,show max a.length b.length=b.length by omega]
  ·rw[dF h,cnd_f,bnd_mk,show max a.length b.length=a.length by omega]
 revert hm
 generalize cnd (decide ((b.length:Int)>(a.length:Int))) (some ((b.length:Int),())) (some ((a.length:Int),()))=g
 cases g with
 | none=>intro hm;cases hm
 | some g =>
  intro hm
  rw[bnd_mk] at hm
  have hm:=Option.some.inj hm
  rw[bnd_mk,hm,wr_id (by omega) (by omega)]
  obtain⟨r,e,h⟩:=loop_rule (ρ:=Unit ⊕ Int) (f:=(fun(s3:Int×Unit)=>cnd (decide (s3.1>=0)) (bnd (q02_digit (a,s3.1,())) fun r4=>bnd (q02_digit (b,s3.1,())) fun r5=>cnd (decide (r4<r5)) (inrE (inrE (some (-1)))) (bnd (q02_digit (a,s3.1,())) fun r6=>bnd (q02_digit (b,s3.1,())) fun r7=>cnd (decide (r6>r7)) (inrE (inrE (some 1))) (inlE (wr .i64 (s3.1-1),())))) (inrE (inlE (())))))
   (fun s=>-1<=s.1/\s.1<=1000000/\V (a.drop (s.1+1).toNat)=V (b.drop (s.1+1).toNat)) (fun s=>(s.1+1).toNat) (fun r=>(r=.inl ()/\V a=V b)\/(r=.inr (-1)/\V a<V b)\/(r=.inr 1/\V b<V a)) (fun s ⟨i0,i1,i2⟩=>by
    obtain⟨i,_⟩:=s
    dsimp only at *
    by_cases hi:i>=0
    ·obtain⟨k,rfl⟩:∃ k:Nat,i=k:=⟨i.toNat,by omega⟩
     rw[show((k:Int)+1).toNat=k+1 by omega] at i2
     rw[dT hi,cnd_t,digit,digit,bnd_mk,bnd_mk,bnd_mk,bnd_mk]
     by_cases h1:nth 0 a k<nth 0 b k
     ·right
      exact⟨.inr (-1),by rw[dT h1];rfl,.inr (.inl ⟨rfl,v_less ha hb h1 i2⟩)⟩
     ·by_cases h2:nth 0 a k>nth 0 b k
      ·right
       exact⟨.inr 1,by rw[dF h1,dT h2];rfl,.inr (.inr ⟨rfl,v_less hb ha h2 i2.symm⟩)⟩
      ·left
       refine⟨((k:Int)-1,()),by rw[dF h1,dF h2,wr_id (by omega) (by omega)];rfl,⟨by dsimp only;omega,by dsimp only;omega,?_⟩,by dsimp only;omega⟩
       dsimp only
       rw[show((k:Int)-1+1).toNat=k by omega,v_drop a k,v_drop b k,i2]
       omega
    ·right
     refine⟨.inl (),by rw[dF hi];rfl,.inl ⟨rfl,?_⟩⟩
     rw[show(i+1).toNat=0 by omega] at i2
     exact i2) (((max a.length b.length:Nat):Int)-1,()) ⟨by dsimp only;omega,by dsimp only;omega,by
      dsimp only
      rw[show(((max a.length b.length:Nat):Int)-1+1).toNat=max a.length b.length by omega,v_end a (by omega),v_end b (by omega)]⟩
  rw[e]
  rcases h with⟨rfl,h⟩ | ⟨rfl,h⟩ | ⟨rfl,h⟩
  ·rw[bndS_l,if_neg (by omega),if_neg (by omega)]
  ·rw[bndS_r,if_pos h]
  ·rw[bndS_r,if_neg (by omega),if_pos h]
end Go.Proofs.YtmomjjgokeffnaaGreat.F
namespace Go.Proofs.YtmomjjgokeffnaaGreat.F
open Go.VX
theorem nth_set_ne{a:List Int} {i j:Nat} (h:i≠j) (d:Int):nth 0 (a.set i d) j=nth 0 a j:=by
 simp [nth,List.getD,h]
theorem v_set:∀ (a:List Int) (i:Nat) (d:Int),i<a.length->V (a.set i d)=V a+65536 ^ i*(d-nth 0 a i)
 | [],i,d,h=>by simp at h
 | x::a,0,d,h=>by simp [V,nth,List.getD];omega
 | x::a,i+1,d,h=>by
  have:=v_set a i d (by simp at h;omega)
  have e:nth 0 (x::a) (i+1)=nth 0 a i:=by simp [nth,List.getD]
  simp only[List.set_cons_succ,V,this,e]
  rw[Int.pow_succ]
  grind
theorem dig_set{a:List Int} (h:Dig a) (i:Nat) {d:Int} (hd:0<=d/\d<65536):Dig (a.set i d):=fun x hx=>by
 rcases List.mem_or_eq_of_mem_set hx with h1 | rfl
 ·exact h x h1
 ·exact hd
theorem v_take_succ(a:List Int) (i:Nat):V (a.take (i+1))=V (a.take i)+65536 ^ i*nth 0 a i:=by
 by_cases hi:i<a.length
 ·rw[List.take_succ_eq_append_getElem hi,v_app,List.length_take,Nat.min_eq_left (by omega)]
  simp [V,nth,List.getD,hi]
 ·rw[List.take_of_length_le (by omega),List.take_of_length_le (by omega)]
  simp [nth,List.getD,hi]
theorem v_rep(n:Nat):V (List.replicate n 0)=0:=by
 induction n with
 | zero=>rfl
 | succ n ih=>simp [List.replicate_succ,V,ih]
theorem times(a b:List Int) (ha:Dig a) (hb:Dig b) (la:a.length<=1000000) (lb:b.length<=1000000) :
  ∃ l,q02_Times (a,b,())=some l/\Dig l/\V l=V a*V b/\l.length=a.length+b.length:=by
 unfold q02_Times
 dsimp only
 have hn:mkN 17592186044416 (wr .i64 ((a.length:Int)+(b.length:Int))) (0:Int)=some (List.replicate (a.length+b.length) 0):=by
  rw[wr_id (by omega) (by omega)]
  simp only[mkN]
  rw[if_pos (by omega),show((a.length:Int)+(b.length:Int)).toNat=a.length+b.length by omega]
 rw[hn,bnd_mk,List.length_replicate]
 obtain⟨r,e,h1,h2,h3⟩:=loop_rule (f:=(fun(s3:Int×List (Int)×Unit)=>cnd (decide (s3.1<(a.length:Int))) (bnd (loopP (fun(s5:Int×Int×List (Int)×Unit)=>cnd (decide (s5.2.1<(b.length:Int))) (bnd (inR (a.length+b.length) (wr .i64 (s3.1+s5.2.1))) fun v6=>bnd (ati s5.2.2.1 v6) fun v7=>bnd (ati a s3.1) fun v8=>bnd (ati b s5.2.1) fun v9=>bnd (inR (a.length+b.length) (wr .i64 (s3.1+s5.2.1))) fun v10=>bnd (ati s5.2.2.1 v10) fun v11=>inlE (wr .u64 (Int.tdiv (wr .u64 ((wr .u64 (v7+(wr .u64 (v8*v9))))+s5.1)) 65536),wr .i64 (s5.2.1+1),List.set s5.2.2.1 (Int.toNat v10) (Int.tmod (wr .u64 ((wr .u64 (v7+(wr .u64 (v8*v9))))+s5.1)) 65536),())) (inrE (some (s5.1,s5.2.2.1,())))) (0,0,s3.2.1,())) fun j4=>bnd (inR (a.length+b.length) (wr .i64 (s3.1+(b.length:Int)))) fun v12=>bnd (ati j4.2.1 v12) fun v13=>bnd (inR (a.length+b.length) (wr .i64 (s3.1+(b.length:Int)))) fun v14=>bnd (ati j4.2.1 v14) fun v15=>inlE (wr .i64 (s3.1+1),List.set j4.2.1 (Int.toNat v14) (wr .u64 (v13+j4.1)),())) (inrE (some (s3.2.1,())))))
  (fun s=>0<=s.1/\s.1<=a.length/\Dig s.2.1/\s.2.1.length=a.length+b.length/\V s.2.1=V (a.take s.1.toNat)*V b/\∀ j,s.1.toNat+b.length<=j->nth 0 s.2.1 j=0) (fun s=>a.length-s.1.toNat) (fun r=>Dig r.1/\V r.1=V a*V b/\r.1.length=a.length+b.length) (fun s ⟨i0,i1,i2,i3,i4,i5⟩=>by
   obtain⟨i,o,_⟩:=s
   dsimp only at *
   obtain⟨k,rfl⟩:∃ k:Nat,i=k:=⟨i.toNat,by omega⟩
   rw[Int.toNat_natCast] at *
   by_cases hk:k<a.length
   ·left
    have dak:=nth_lt ha k
    obtain⟨⟨c,o',_⟩,e,g1,g2,g3,g4,g5,g6⟩:=loop_rule (f:=(fun(s5:Int×Int×List (Int)×Unit)=>cnd (decide (s5.2.1<(b.length:Int))) (bnd (inR (a.length+b.length) (wr .i64 ((k:Int)+s5.2.1))) fun v6=>bnd (ati s5.2.2.1 v6) fun v7=>bnd (ati a k) fun v8=>bnd (ati b s5.2.1) fun v9=>bnd (inR (a.length+b.length) (wr .i64 ((k:Int)+s5.2.1))) fun v10=>bnd (ati s5.2.2.1 v10) fun v11=>inlE (wr .u64 (Int.tdiv (wr .u64 ((wr .u64 (v7+(wr .u64 (v8*v9))))+s5.1)) 65536),wr .i64 (s5.2.1+1),List.set s5.2.2.1 (Int.toNat v10) (Int.tmod (wr .u64 ((wr .u64 (v7+(wr .u64 (v8*v9))))+s5.1)) 65536),())) (inrE (some (s5.1,s5.2.2.1,())))))
     (fun s=>0<=s.1/\s.1<65536/\0<=s.2.1/\s.2.1<=b.length/\Dig s.2.2.1/\s.2.2.1.length=a.length+b.length/\V s.2.2.1+65536 ^ (k+s.2.1.toNat)*s.1=V (a.take k)*V b+65536 ^ k*(nth 0 a k*V (b.take s.2.1.toNat))/\∀ j,k+b.length<=j->nth 0 s.2.2.1 j=0) (fun s=>b.length-s.2.1.toNat)
     (fun r=>0<=r.1/\r.1<65536/\Dig r.2.1/\r.2.1.length=a.length+b.length/\V r.2.1+65536 ^ (k+b.length)*r.1=V (a.take k)*V b+65536 ^ k*(nth 0 a k*V b)/\∀ j,k+b.length<=j->nth 0 r.2.1 j=0) (fun s ⟨j0,j1,j2,j3,j4,j5,j6,j7⟩=>by
      obtain⟨c,m,o',_⟩:=s
      dsimp only at *
      obtain⟨m,rfl⟩:∃ k:Nat,m=k:=⟨m.toNat,by omega⟩
      rw[Int.toNat_natCast] at *
      by_cases hm:m<b.length
      ·left
       have dbm:=nth_lt hb m
       have dom:=nth_lt j4 (k+m)
       have hx:0<=nth 0 a k*nth 0 b m:=Int.mul_nonneg (by omega) (by omega)
       have hy:nth 0 a k*nth 0 b m<=65535*65535:=by
        have h1:nth 0 a k*nth 0 b m<=65535*nth 0 b m:=Int.mul_le_mul_of_nonneg_right (by omega) (by omega)
        omega
       have e1:wr .i64 ((k:Int)+(m:Int))=((k+m:Nat):Int):=by rw[wr_id (by omega) (by omega)];omega
       rw[lt_true hm,cnd_t,e1,inR_ok (by omega),bnd_mk,ati_d 0 (i:=k+m) (by omega),bnd_mk,ati_d 0 hk,bnd_mk,ati_d 0 hm,bnd_mk,bnd_mk,ati_d 0 (i:=k+m) (by omega),bnd_mk,Int.toNat_natCast]
       rw[wru_id (x:=nth 0 a k*nth 0 b m) (by omega) (by omega),wru_id (x:=nth 0 o' (k+m)+nth 0 a k*nth 0 b m) (by omega) (by omega),wru_id (x:=nth 0 o' (k+m)+nth 0 a k*nth 0 b m+c) (by omega) (by omega),Int.tdiv_eq_ediv_of_nonneg (by omega),Int.tmod_eq_emod_of_nonneg (by omega),wru_id (x:=(nth 0 o' (k+m)+nth 0 a k*nth 0 b m+c) / 65536) (by omega) (by omega),wr_id (x:=(m:Int)+1) (by omega) (by omega)]
       refine⟨_,rfl,⟨by dsimp only;omega,by dsimp only;omega,by dsimp only;omega,by dsimp only;omega,dig_set j4 _ (by omega),by simp [j5],?_,?_⟩,by dsimp only;omega⟩
       ·dsimp only
        rw[v_set _ _ _ (by omega),show((m:Int)+1).toNat=m+1 by omega,v_take_succ]
        rw[show k+(m+1)=(k+m)+1 by omega,Int.pow_succ,Int.pow_add] at *
        generalize nth 0 a k=x at *
        generalize nth 0 b m=y at *
        generalize nth 0 o' (k+m)=z at *
        generalize (65536:Int) ^ k=P at *
        generalize (65536:Int) ^ m=Q at *
        have hd:z+x*y+c=65536*((z+x*y+c) / 65536)+(z+x*y+c) % 65536:=by omega
        generalize (z+x*y+c) / 65536=q at *
        generalize (z+x*y+c) % 65536=r at *
        generalize V (List.take m b)=B at *
        generalize V (List.take k a)*V b=A at *
        generalize V o'=O at *
        clear j7 i4 i5 hn e1 hx hy
        grind
       ·intro j hj
        dsimp only
        rw[nth_set_ne (by omega)]
        exact j7 j hj
      ·right
       have hmn:m=b.length:=by omega
       subst hmn
       refine⟨_,by rw[lt_false];rfl,j0,j1,j4,j5,?_,j7⟩
       rw[List.take_length] at j6
       exact j6) (0,0,o,()) ⟨by simp,by simp,by simp,by simp,i2,i3,by simp [V,i4],i5⟩
    dsimp only at *
    rw[lt_true hk,cnd_t,e,bnd_mk]
    have e1:wr .i64 ((k:Int)+(b.length:Int))=((k+b.length:Nat):Int):=by rw[wr_id (by omega) (by omega)];omega
    dsimp only
    rw[e1,inR_ok (by omega),bnd_mk,ati_d 0 (i:=k+b.length) (by omega),bnd_mk,bnd_mk,ati_d 0 (i:=k+b.length) (by omega),bnd_mk,Int.toNat_natCast,g6 _ (Nat.le_refl _),wru_id (x:=0+c) (by omega) (by omega),wr_succ hk (by omega)]
    refine⟨_,rfl,⟨by dsimp only;omega,by dsimp only;omega,dig_set g3 _ (by omega),by simp [g4],?_,?_⟩,by dsimp only;omega⟩
    ·dsimp only
     rw[v_set _ _ _ (by omega),show((k:Int)+1).toNat=k+1 by omega,v_take_succ,g6 _ (Nat.le_refl _)]
     generalize nth 0 a k=x at *
     generalize (65536:Int) ^ (k+b.length)=Q at *
     generalize (65536:Int) ^ k=P at *
     grind
    ·intro j hj
     dsimp only at hj ⊢
     rw[nth_set_ne (by omega)]
     exact g6 j (by omega)
   ·right
    have hkn:k=a.length:=by omega
    subst hkn
    refine⟨(o,()),by rw[lt_false];rfl,i2,?_,i3⟩
    rw[List.take_length] at i4
    exact i4) (0,List.replicate (a.length+b.length) 0,()) ⟨by simp,by simp,fun d hd=>by
     have:=List.eq_of_mem_replicate hd
     omega,by simp,by simp [V,v_rep],fun j _=>by
     simp only[nth,List.getD]
     by_cases hj:j<a.length+b.length
     ·simp [hj]
     ·simp [hj]⟩
 rw[e]
 exact⟨r.1,rfl,h1,h2,h3⟩
theorem plus2(a:List Int) (ha:Dig a) (la:a.length<=1000000):∃ l,q02_Plus (a,a,())=some l/\Dig l/\V l=2*V a/\l.length<=a.length+1:=by
 obtain⟨l,e,h1,h2,h3⟩:=plus a a ha ha la la
 exact⟨l,e,h1,by omega,by omega⟩
theorem twos(n:Nat) (hn:n<=1000):∃ l,q02_Twos ((n:Int),())=some l/\Dig l/\V l=2 ^ n/\l.length<=n+1:=by
 unfold q02_Twos
 dsimp only
 obtain⟨r,e,h1,h2,h3⟩:=loop_rule (f:=(fun(s2:List (Int)×Int×Unit)=>cnd (decide (s2.2.1<(n:Int))) (bnd (q02_Plus (s2.1,s2.1,())) fun r3=>inlE (r3,wr .i64 (s2.2.1+1),())) (inrE (some (s2.1,())))))
  (fun s=>0<=s.2.1/\s.2.1<=n/\Dig s.1/\V s.1=2 ^ s.2.1.toNat/\s.1.length<=s.2.1.toNat+1) (fun s=>n-s.2.1.toNat) (fun r=>Dig r.1/\V r.1=2 ^ n/\r.1.length<=n+1) (fun s ⟨i0,i1,i2,i3,i4⟩=>by
   obtain⟨o,i,_⟩:=s
   dsimp only at *
   obtain⟨k,rfl⟩:∃ k:Nat,i=k:=⟨i.toNat,by omega⟩
   rw[Int.toNat_natCast] at *
   by_cases hk:k<n
   ·left
    obtain⟨l,e,g1,g2,g3⟩:=plus2 o i2 (by omega)
    rw[lt_true hk,cnd_t,e,bnd_mk,wr_succ hk (by omega)]
    refine⟨_,rfl,⟨by dsimp only;omega,by dsimp only;omega,g1,?_,by dsimp only;omega⟩,by dsimp only;omega⟩
    dsimp only
    rw[show((k:Int)+1).toNat=k+1 by omega,Int.pow_succ,g2,i3]
    omega
   ·right
    have hkn:k=n:=by omega
    subst hkn
    exact⟨_,by rw[lt_false];rfl,i2,i3,i4⟩) ([1],0,()) ⟨by simp,by simp,dig_cons.2 ⟨by omega,dig_nil⟩,by simp [V],by simp⟩
 rw[e]
 exact⟨r.1,rfl,h1,h2,h3⟩
def T(a:List Int) (i m:Nat):Int:=V ((a.drop i).take m)
theorem t_succ(a:List Int) (i m:Nat):T a i (m+1)=nth 0 a i+65536*T a (i+1) m:=by
 unfold T
 by_cases hi:i<a.length
 ·rw[List.drop_eq_getElem_cons hi,List.take_succ_cons]
  simp only[V]
  congr 1
  simp [nth,List.getD,hi]
 ·rw[List.drop_of_length_le (by omega),List.drop_of_length_le (by omega)]
  simp [V,nth,List.getD,hi]
theorem t_zero(a:List Int) (i:Nat):T a i 0=0:=by simp [T,V]
theorem t_nonneg{a:List Int} (h:Dig a) (i m:Nat):0<=T a i m:=v_nonneg (dig_take (dig_drop h i) m)
theorem t_lt{a:List Int} (h:Dig a) (i m:Nat):T a i m<65536 ^ m:=v_take_lt (dig_drop h i) m
theorem mod(a:List Int) (ha:Dig a):q02_Mod (a,())=some (T a 4 4,T a 0 4,()):=by
 unfold q02_Mod
 dsimp only
 have d:∀ i,0<=nth 0 a i/\nth 0 a i<65536:=nth_lt ha
 have hi:∀ (i:Nat) (h l:Int),4<=i->i<=7->0<=h->h<281474976710656->(fun(s2:Int×(Int×(Int×Unit))×Unit)=>cnd (decide (s2.1>=0)) (bnd (cnd (decide (s2.1>=4)) (bnd (q02_digit (a,s2.1,())) fun r4=>some ((wr .u64 ((wr .u64 (s2.2.1.1*65536))+r4),s2.2.1.2),())) (bnd (q02_digit (a,s2.1,())) fun r5=>some ((s2.2.1.1,wr .u64 ((wr .u64 (s2.2.1.2.1*65536))+r5),s2.2.1.2.2),()))) fun j3=>inlE (wr .i64 (s2.1-1),j3.1,())) (inrE (some (s2.2.1,())):Option ((Int×(Int×(Int×Unit))×Unit) ⊕ ((Int×Int×Unit)×Unit)))) ((i:Int),(h,l,()),())=some (.inl ((i:Int)-1,(h*65536+nth 0 a i,l,()),())):=by
  intro i h l h4 h7 h0 h1
  have:=d i
  dsimp only
  rw[dT (by omega:(i:Int)>=0),dT (by omega:(i:Int)>=4),digit,cnd_t,cnd_t,bnd_mk,bnd_mk,wru_id (x:=h*65536) (by omega) (by omega),wru_id (x:=h*65536+nth 0 a i) (by omega) (by omega),wr_id (by omega) (by omega)]
  rfl
 have lo:∀ (i:Nat) (h l:Int),i<4->0<=l->l<281474976710656->(fun(s2:Int×(Int×(Int×Unit))×Unit)=>cnd (decide (s2.1>=0)) (bnd (cnd (decide (s2.1>=4)) (bnd (q02_digit (a,s2.1,())) fun r4=>some ((wr .u64 ((wr .u64 (s2.2.1.1*65536))+r4),s2.2.1.2),())) (bnd (q02_digit (a,s2.1,())) fun r5=>some ((s2.2.1.1,wr .u64 ((wr .u64 (s2.2.1.2.1*65536))+r5),s2.2.1.2.2),()))) fun j3=>inlE (wr .i64 (s2.1-1),j3.1,())) (inrE (some (s2.2.1,())):Option ((Int×(Int×(Int×Unit))×Unit) ⊕ ((Int×Int×Unit)×Unit)))) ((i:Int),(h,l,()),())=some (.inl ((i:Int)-1,(h,l*65536+nth 0 a i,()),())):=by
  intro i h l h4 h0 h1
  have:=d i
  dsimp only
  rw[dT (by omega:(i:Int)>=0),dF (by omega:¬ (i:Int)>=4),digit,cnd_t,cnd_f,bnd_mk,bnd_mk,wru_id (x:=l*65536) (by omega) (by omega),wru_id (x:=l*65536+nth 0 a i) (by omega) (by omega),wr_id (by omega) (by omega)]
  rfl
 have d0:=d 0;have d1:=d 1;have d2:=d 2;have d3:=d 3;have d4:=d 4;have d5:=d 5;have d6:=d 6;have d7:=d 7
 rw[show((7:Int),((0:Int),(0:Int),()),())=(((7:Nat):Int),((0:Int),(0:Int),()),()) from rfl]
 rw[loopP_step (hi 7 0 0 (by omega) (by omega) (by omega) (by omega)),show((7:Nat):Int)-1=((6:Nat):Int) from rfl,
  loopP_step (hi 6 _ 0 (by omega) (by omega) (by omega) (by omega)),show((6:Nat):Int)-1=((5:Nat):Int) from rfl,
  loopP_step (hi 5 _ 0 (by omega) (by omega) (by omega) (by omega)),show((5:Nat):Int)-1=((4:Nat):Int) from rfl,
  loopP_step (hi 4 _ 0 (by omega) (by omega) (by omega) (by omega)),show((4:Nat):Int)-1=((3:Nat):Int) from rfl,
  loopP_step (lo 3 _ 0 (by omega) (by omega) (by omega)),show((3:Nat):Int)-1=((2:Nat):Int) from rfl,
  loopP_step (lo 2 _ _ (by omega) (by omega) (by omega)),show((2:Nat):Int)-1=((1:Nat):Int) from rfl,
  loopP_step (lo 1 _ _ (by omega) (by omega) (by omega)),show((1:Nat):Int)-1=((0:Nat):Int) from rfl,
  loopP_step (lo 0 _ _ (by omega) (by omega) (by omega))]
 rw[loopP_done (r:=_) (by rfl),bnd_mk]
 have t4:T a 4 4=nth 0 a 4+65536*(nth 0 a 5+65536*(nth 0 a 6+65536*nth 0 a 7)):=by
  rw[t_succ,t_succ,t_succ,t_succ,t_zero];simp only[Nat.reduceAdd];omega
 have t0:T a 0 4=nth 0 a 0+65536*(nth 0 a 1+65536*(nth 0 a 2+65536*nth 0 a 3)):=by
  rw[t_succ,t_succ,t_succ,t_succ,t_zero];simp only[Nat.reduceAdd];omega
 rw[t4,t0]
 dsimp only
 congr 1
 refine Prod.ext ?_ (Prod.ext ?_ rfl)
 ·dsimp only;omega
 ·dsimp only;omega
theorem t_mod(a:List Int) (ha:Dig a):T a 0 4=V a % 18446744073709551616:=by
 have h1:=v_split a 4 []
 have h2:=t_nonneg ha 0 4
 have h3:=t_lt ha 0 4
 simp only[V,List.take_nil,List.drop_nil] at h1
 rw[show T a 0 4=V (a.take 4) by simp [T]] at *
 rw[show(65536:Int) ^ 4=18446744073709551616 from rfl] at *
 omega
theorem odd(a:List Int) (ha:Dig a):q03_Odd (a,())=some (decide (V a % 2=1)):=by
 unfold q03_Odd
 dsimp only
 cases a with
 | nil=>rfl
 | cons d l =>
  have h:=(dig_cons.1 ha).1
  rw[dT (by simp:(((d::l).length:Nat):Int)>0),cnd_t,ati_0 0 (by simp)]
  simp only[bnd_mk]
  congr 1
  have e:nth 0 (d::l) 0=d:=rfl
  rw[e,Int.tmod_eq_emod_of_nonneg h.1,decide_eq_decide]
  simp only[V]
  omega
end Go.Proofs.YtmomjjgokeffnaaGreat.F
namespace Go.Proofs.YtmomjjgokeffnaaGreat.F
open Go.VX
theorem plus_bit(a:List Int) (b:Int) (ha:Dig a) (hb:0<=b/\b<65536) (la:a.length<=1000000):∃ l,q02_Plus (a,[b],())=some l/\Dig l/\V l=V a+b/\l.length<=a.length+2:=by
 obtain⟨l,e,h1,h2,h3⟩:=plus a [b] ha (dig_cons.2 ⟨hb,dig_nil⟩) la (by simp)
 simp only[V,List.length_singleton] at h2 h3
 exact⟨l,e,h1,by omega,by omega⟩
theorem halves(d:Int) (hd:0<=d/\d<65536) (k:Nat) (hk:k<=15):loopP (fun(s7:Int×Int×Unit)=>cnd (decide (s7.2.1<15)) (inlE (wr .u64 (Int.tdiv s7.1 2),wr .i64 (s7.2.1+1),())) (inrE (some (s7.1,())))) (d,(k:Int),())=some (d / 2 ^ (15-k),()):=by
 obtain⟨r,e,h⟩:=loop_rule (f:=(fun(s7:Int×Int×Unit)=>cnd (decide (s7.2.1<15)) (inlE (wr .u64 (Int.tdiv s7.1 2),wr .i64 (s7.2.1+1),())) (inrE (some (s7.1,())))))
  (fun s=>0<=s.2.1/\s.2.1<=15/\0<=s.1/\s.1<65536/\s.1 / 2 ^ (15-s.2.1.toNat)=d / 2 ^ (15-k)) (fun s=>15-s.2.1.toNat) (fun r=>r=(d / 2 ^ (15-k),())) (fun s ⟨i0,i1,i2,i3,i4⟩=>by
   obtain⟨x,m,_⟩:=s
   dsimp only at *
   by_cases hm:m<15
   ·left
    refine⟨(x / 2,m+1,()),by rw[dT hm,Int.tdiv_eq_ediv_of_nonneg i2,wru_id (by omega) (by omega),wr_id (by omega) (by omega)];rfl,⟨by dsimp only;omega,by dsimp only;omega,by dsimp only;omega,by dsimp only;omega,?_⟩,by dsimp only;omega⟩
    dsimp only
    rw[← i4,show 15-m.toNat=(15-(m+1).toNat)+1 by omega,Int.pow_succ,Int.mul_comm,Int.ediv_ediv_of_nonneg (by omega)]
   ·right
    have:m=15:=by omega
    subst this
    refine⟨(x,()),rfl,?_⟩
    simp at i4
    rw[i4]) (d,(k:Int),()) ⟨by simp,by dsimp only;omega,hd.1,hd.2,rfl⟩
 rw[e,h]
theorem quotient(a d:List Int) (ha:Dig a) (hd:Dig d) (la:a.length<=1000) (ld:d.length<=1000) (h0:0<V d) :
  ∃ l,q03_Quotient (a,d,())=some l/\Dig l/\V l=V a / V d/\l.length<=100000:=by
 unfold q03_Quotient
 dsimp only
 obtain⟨r,e,h1,h2,h3⟩:=loop_rule (f:=(fun(s2:List (Int)×List (Int)×Int×Unit)=>cnd (decide (s2.2.2.1>=0)) (bnd (loopP (fun(s4:List (Int)×List (Int)×Int×Unit)=>cnd (decide (s4.2.2.1<16)) (bnd (ati a s2.2.2.1) fun v5=>bnd (loopP (fun(s7:Int×Int×Unit)=>cnd (decide (s7.2.1<15)) (inlE (wr .u64 (Int.tdiv s7.1 2),wr .i64 (s7.2.1+1),())) (inrE (some (s7.1,())))) (v5,s4.2.2.1,())) fun j6=>bnd (q02_Plus (s4.2.1,s4.2.1,())) fun r8=>bnd (q02_Plus (r8,[Int.tmod j6.1 2],())) fun r9=>bnd (q02_Plus (s4.1,s4.1,())) fun r10=>bnd (q02_Cmp (r9,d,())) fun r11=>bnd (cnd (decide (r11>=0)) (bnd (q02_Less (r9,d,())) fun r13=>bnd (q02_Plus (r10,[1],())) fun r14=>some (r14,r13,())) (some (r10,r9,()))) fun j12=>inlE (j12.1,j12.2.1,wr .i64 (s4.2.2.1+1),())) (inrE (some (s4.1,s4.2.1,())))) (s2.1,s2.2.1,0,())) fun j3=>inlE (j3.1,j3.2.1,wr .i64 (s2.2.2.1-1),())) (inrE (some (s2.1,())))))
  (fun s=>-1<=s.2.2.1/\s.2.2.1<a.length/\Dig s.1/\Dig s.2.1/\s.1.length<=48*(a.length-(s.2.2.1+1).toNat)/\s.2.1.length<=48*(a.length-(s.2.2.1+1).toNat)/\V (a.drop (s.2.2.1+1).toNat)=V d*V s.1+V s.2.1/\V s.2.1<V d) (fun s=>(s.2.2.1+1).toNat)
  (fun r=>Dig r.1/\V r.1=V a / V d/\r.1.length<=100000) (fun s ⟨i0,i1,i2,i3,i4,i5,i6,i7⟩=>by
   obtain⟨q,t,i,_⟩:=s
   dsimp only at *
   by_cases hi:i>=0
   ·left
    obtain⟨m,rfl⟩:∃ k:Nat,i=k:=⟨i.toNat,by omega⟩
    have hm:m<a.length:=by omega
    have dm:=nth_lt ha m
    rw[show((m:Int)+1).toNat=m+1 by omega] at *
    obtain⟨⟨q',t',_⟩,e,g1,g2,g3,g4,g5,g6⟩:=loop_rule (f:=(fun(s4:List (Int)×List (Int)×Int×Unit)=>cnd (decide (s4.2.2.1<16)) (bnd (ati a (m:Int)) fun v5=>bnd (loopP (fun(s7:Int×Int×Unit)=>cnd (decide (s7.2.1<15)) (inlE (wr .u64 (Int.tdiv s7.1 2),wr .i64 (s7.2.1+1),())) (inrE (some (s7.1,())))) (v5,s4.2.2.1,())) fun j6=>bnd (q02_Plus (s4.2.1,s4.2.1,())) fun r8=>bnd (q02_Plus (r8,[Int.tmod j6.1 2],())) fun r9=>bnd (q02_Plus (s4.1,s4.1,())) fun r10=>bnd (q02_Cmp (r9,d,())) fun r11=>bnd (cnd (decide (r11>=0)) (bnd (q02_Less (r9,d,())) fun r13=>bnd (q02_Plus (r10,[1],())) fun r14=>some (r14,r13,())) (some (r10,r9,()))) fun j12=>inlE (j12.1,j12.2.1,wr .i64 (s4.2.2.1+1),())) (inrE (some (s4.1,s4.2.1,())))))
     (fun s=>0<=s.2.2.1/\s.2.2.1<=16/\Dig s.1/\Dig s.2.1/\s.1.length<=48*(a.length-(m+1))+3*s.2.2.1.toNat/\s.2.1.length<=48*(a.length-(m+1))+3*s.2.2.1.toNat/\2 ^ s.2.2.1.toNat*V (a.drop (m+1))+nth 0 a m / 2 ^ (16-s.2.2.1.toNat)=V d*V s.1+V s.2.1/\V s.2.1<V d) (fun s=>16-s.2.2.1.toNat)
     (fun r=>Dig r.1/\Dig r.2.1/\r.1.length<=48*(a.length-m)/\r.2.1.length<=48*(a.length-m)/\V (a.drop m)=V d*V r.1+V r.2.1/\V r.2.1<V d) (fun s ⟨j0,j1,j2,j3,j4,j5,j6,j7⟩=>by
      obtain⟨q,t,k,_⟩:=s
      dsimp only at *
      obtain⟨k,rfl⟩:∃ n:Nat,k=n:=⟨k.toNat,by omega⟩
      rw[Int.toNat_natCast] at *
      by_cases hk:(k:Int)<16
      ·left
       obtain⟨l8,e8,a8,b8,c8⟩:=plus2 t j3 (by omega)
       have hbit:0<=nth 0 a m / 2 ^ (15-k):=Int.ediv_nonneg dm.1 (Int.le_of_lt (Int.pow_pos (by omega)))
       obtain⟨l9,e9,a9,b9,c9⟩:=plus_bit l8 (nth 0 a m / 2 ^ (15-k) % 2) a8 (by omega) (by omega)
       obtain⟨l10,e10,a10,b10,c10⟩:=plus2 q j2 (by omega)
       rw[dT hk,cnd_t,ati_d 0 hm,bnd_mk,halves _ dm k (by omega),bnd_mk,e8,bnd_mk]
       dsimp only
       rw[Int.tmod_eq_emod_of_nonneg hbit,e9,bnd_mk,e10,bnd_mk,cmp _ _ a9 hd (by omega) (by omega),bnd_mk,wr_id (x:=(k:Int)+1) (by omega) (by omega)]
       have hN:2 ^ (k+1)*V (a.drop (m+1))+nth 0 a m / 2 ^ (16-(k+1))=V d*(2*V q)+V l9:=by
        rw[b9,b8,show 16-(k+1)=15-k by omega,Int.pow_succ]
        rw[show 16-k=(15-k)+1 by omega,Int.pow_succ,← Int.ediv_ediv_of_nonneg (Int.le_of_lt (Int.pow_pos (by omega)))] at j6
        generalize nth 0 a m / 2 ^ (15-k)=B at *
        have hB:B=2*(B / 2)+B % 2:=by omega
        generalize B / 2=B2 at *
        generalize B % 2=b at *
        generalize V (a.drop (m+1))=A at *
        generalize (2:Int) ^ k=P at *
        clear i6 hbit
        grind
       by_cases hc:V l9<V d
       ·rw[if_pos hc]
        refine⟨(l10,l9,(k:Int)+1,()),rfl,⟨by dsimp only;omega,by dsimp only;omega,a10,a9,by dsimp only;omega,by dsimp only;omega,?_,hc⟩,by dsimp only;omega⟩
        dsimp only
        rw[show((k:Int)+1).toNat=k+1 by omega,hN,b10]
       ·rw[if_neg hc]
        obtain⟨l13,e13,a13,b13,c13⟩:=less l9 d a9 hd (by omega) (by omega) (by omega)
        obtain⟨l14,e14,a14,b14,c14⟩:=plus_bit l10 1 a10 (by omega) (by omega)
        have h9:V l9<2*V d:=by
         rw[b9,b8];omega
        refine⟨(l14,l13,(k:Int)+1,()),?_,⟨by dsimp only;omega,by dsimp only;omega,a14,a13,by dsimp only;omega,by dsimp only;omega,?_,by dsimp only;omega⟩,by dsimp only;omega⟩
        ·rw[dT (by split<;>omega),cnd_t,e13,bnd_mk,e14];rfl
        ·dsimp only
         rw[show((k:Int)+1).toNat=k+1 by omega,hN,b13,b14,b10]
         grind
      ·right
       have hk16:k=16:=by omega
       subst hk16
       refine⟨(q,t,()),rfl,j2,j3,by dsimp only;omega,by dsimp only;omega,?_,j7⟩
       dsimp only
       rw[v_drop a m,← j6]
       simp
       omega) (q,t,0,()) ⟨by simp,by simp,i2,i3,by simpa using i4,by simpa using i5,by
        dsimp only
        rw[← i6]
        simp
        omega,i7⟩
    dsimp only at *
    rw[dT hi,cnd_t,e,bnd_mk,wr_id (by omega) (by omega)]
    refine⟨_,rfl,⟨by dsimp only;omega,by dsimp only;omega,g1,g2,?_,?_,?_,g6⟩,by dsimp only;omega⟩
    ·dsimp only;rw[show((m:Int)-1+1).toNat=m by omega];exact g3
    ·dsimp only;rw[show((m:Int)-1+1).toNat=m by omega];exact g4
    ·dsimp only;rw[show((m:Int)-1+1).toNat=m by omega];exact g5
   ·right
    refine⟨(q,()),by rw[dF hi];rfl,i2,?_,by dsimp only;omega⟩
    rw[show(i+1).toNat=0 by omega] at i6
    simp only[List.drop_zero] at i6
    dsimp only
    have ht:=v_nonneg i3
    rw[i6,Int.add_comm,Int.add_mul_ediv_left _ _ (by omega),Int.ediv_eq_zero_of_lt ht i7]
    omega) ([],[],wr .i64 ((a.length:Int)-1),()) (by
    rw[wr_id (by omega) (by omega)]
    refine⟨by dsimp only;omega,by dsimp only;omega,dig_nil,dig_nil,by simp,by simp,?_,by simpa [V] using h0⟩
    dsimp only
    rw[show((a.length:Int)-1+1).toNat=a.length by omega,v_end a (Nat.le_refl _)]
    simp [V])
 rw[e]
 exact⟨r.1,rfl,h1,h2,h3⟩
end Go.Proofs.YtmomjjgokeffnaaGreat.F
namespace Go.Proofs.YtmomjjgokeffnaaGreat.F
open Go.VX
theorem rounded(a d:List Int) (ha:Dig a) (hd:Dig d) (la:a.length<=1000) (ld:d.length<=1000) (h0:0<V d) :
  ∃ l,q03_Rounded (a,d,())=some l/\Dig l/\V l=Rd (V a) (V d)/\l.length<=100002:=by
 unfold q03_Rounded
 dsimp only
 obtain⟨q,e1,a1,b1,c1⟩:=quotient a d ha hd la ld h0
 obtain⟨m,e2,a2,b2,c2⟩:=times q d a1 hd (by omega) (by omega)
 have h00:Dig (a++[0]):=dig_app.2 ⟨ha,dig_cons.2 ⟨by omega,dig_nil⟩⟩
 have v00:V (a++[0])=V a:=by rw[v_app];simp [V]
 have hdm:=Int.emod_add_mul_ediv (V a) (V d)
 have hr:=Int.emod_nonneg (V a) (by omega:V d≠0)
 have hr2:=Int.emod_lt_of_pos (V a) h0
 have hmv:V m=V d*(V a / V d):=by rw[b2,b1,Int.mul_comm]
 obtain⟨t,e3,a3,b3,c3⟩:=less (a++[0]) m h00 a2 (by simp;omega) (by omega) (by rw[v00,hmv];omega)
 have ht:V t=V a % V d:=by rw[b3,v00,hmv];omega
 obtain⟨t2,e4,a4,b4,c4⟩:=plus2 t a3 (by rw[c3];simp;omega)
 have lt2:t2.length<=1000000:=by rw[c3] at c4;simp at c4;omega
 rw[e1,bnd_mk,app_ok (by simp;omega),bnd_mk,app_ok (by simp;omega),bnd_mk,e2,bnd_mk]
 simp only[List.nil_append]
 rw[e3,bnd_mk,e4,bnd_mk,cmp _ _ a4 hd lt2 (by omega),bnd_mk]
 have ho:=odd q a1
 obtain⟨q1,e5,a5,b5,c5⟩:=plus_bit q 1 a1 (by omega) (by omega)
 rw[b4,ht]
 unfold Rd
 by_cases k1:2*(V a % V d)<V d
 ·rw[if_pos k1,if_neg (by omega)]
  exact⟨q,rfl,a1,b1,by omega⟩
 ·rw[if_neg k1]
  by_cases k2:V d<2*(V a % V d)
  ·rw[if_pos k2,if_pos (by omega),e5]
   exact⟨q1,rfl,a5,by rw[b5,b1],by omega⟩
  ·rw[if_neg k2,ho]
   by_cases k3:V q % 2=1
   ·rw[if_pos (by right;rw[← b1];omega),dT k3,e5]
    exact⟨q1,rfl,a5,by rw[b5,b1],by omega⟩
   ·rw[if_neg (by rw[← b1];omega),dF k3]
    exact⟨q,rfl,a1,b1,by omega⟩
theorem rsigned(a:List Int) (neg:Bool) (ha:Dig a) (la:a.length<=1000000):q04_Signed (a,neg,())=some (Sg (V a) neg):=by
 unfold q04_Signed
 dsimp only
 obtain⟨p,e1,a1,b1,c1⟩:=twos 63 (by omega)
 have e1':q02_Twos (63,())=some p:=e1
 rw[show(2:Int) ^ 63=9223372036854775808 from rfl] at b1
 have h0:=v_nonneg ha
 rw[e1',bnd_mk,cmp _ _ ha a1 la (by omega),bnd_mk,mod a ha,t_mod a ha,b1]
 unfold Sg
 by_cases k1:V a<9223372036854775808
 ·rw[if_pos k1,if_neg (by omega)]
  cases neg with
  | true =>
   have e:wr .i64 (wr .u64 (0-V a % 18446744073709551616))=-V a:=by
    rw[wru_mod]
    by_cases hz:V a=0
    ·rw[hz];rfl
    ·rw[show(0-V a % 18446744073709551616) % 18446744073709551616=18446744073709551616-V a by omega]
     simp only[wr,IntKind.wrap,IntKind.signed,IntKind.bits,Bool.true_and,if_true]
     split<;>(simp at *;omega)
   rw[← e];rfl
  | false =>
   have e:wr .i64 (V a % 18446744073709551616)=V a:=by rw[wr_id (by omega) (by omega)];omega
   show some (wr .i64 (V a % 18446744073709551616),0,())=_
   rw[e];rfl
 ·rw[if_neg k1]
  by_cases k2:9223372036854775808<V a
  ·rw[if_pos k2,if_pos (by omega)];rfl
  ·have hv:V a=9223372036854775808:=by omega
   rw[if_neg k2,hv]
   cases neg<;>rfl
theorem rmul(x y:Int) (h1:-9223372036854775808<=x) (h2:x<=9223372036854775807) (h3:-9223372036854775808<=y) (h4:y<=9223372036854775807):q04_Mul (x,y,())=some (MulS x y):=by
 unfold q04_Mul MulS
 dsimp only
 obtain⟨l1,e1,a1,b1,c1⟩:=size x h1 h2
 obtain⟨l2,e2,a2,b2,c2⟩:=size y h3 h4
 obtain⟨l3,e3,a3,b3,c3⟩:=times l1 l2 a1 a2 (by omega) (by omega)
 obtain⟨l4,e4,a4,b4,c4⟩:=twos 32 (by omega)
 have e4':q02_Twos (32,())=some l4:=e4
 rw[show(2:Int) ^ 32=4294967296 from rfl] at b4
 obtain⟨l5,e5,a5,b5,c5⟩:=rounded l3 l4 a3 a4 (by omega) (by omega) (by omega)
 rw[e1,bnd_mk,e2,bnd_mk,e3,bnd_mk,e4',bnd_mk,e5,bnd_mk,rsigned _ _ a5 (by omega),bnd_mk,b5,b3,b1,b2,b4]
theorem rpart(x y:Int) (h1:-9223372036854775808<=x) (h2:x<=9223372036854775807) (h3:-9223372036854775808<=y) (h4:y<=9223372036854775807):q04_Part (x,y,())=some (MulS x y).1:=by
 unfold q04_Part
 dsimp only
 rw[rmul x y h1 h2 h3 h4]
 rfl
end Go.Proofs.YtmomjjgokeffnaaGreat.F
namespace Go.Proofs.YtmomjjgokeffnaaGreat.F
open Go.VX
theorem r_share(i n:Int) (n0:1<=n) (n1:n<=1048576) (i0:0<=i) (i1:i<n):q07_Share (i,n,())=some (ShareS i n):=by
 unfold q07_Share ShareS
 dsimp only
 by_cases h:n=1
 ·rw[dT h,if_pos h];rfl
 rw[dF h,if_neg h,cnd_f,wr_id (x:=n-1) (by omega) (by omega)]
 obtain⟨l1,e1,a1,b1,c1⟩:=size i (by omega) (by omega)
 obtain⟨l2,e2,a2,b2,c2⟩:=twos 32 (by omega)
 have e2':q02_Twos (32,())=some l2:=e2
 rw[show(2:Int) ^ 32=4294967296 from rfl] at b2
 obtain⟨l3,e3,a3,b3,c3⟩:=times l1 l2 a1 a2 (by omega) (by omega)
 obtain⟨l4,e4,a4,b4,c4⟩:=size (n-1) (by omega) (by omega)
 have hi:Abs i=i:=by unfold Abs;rw[if_neg (by omega)]
 have hn:Abs (n-1)=n-1:=by unfold Abs;rw[if_neg (by omega)]
 obtain⟨l5,e5,a5,b5,c5⟩:=rounded l3 l4 a3 a4 (by omega) (by omega) (by omega)
 rw[e1,bnd_mk,e2',bnd_mk,e3,bnd_mk,e4,bnd_mk,e5,bnd_mk,mod l5 a5,bnd_mk,t_mod l5 a5,b5,b3,b1,b2,b4,hi,hn]
 have hb:Rd (i*4294967296) (n-1)<=4294967296:=rd_bound (by omega) (by omega)
 have hb0:=rd_nonneg (n:=i*4294967296) (d:=n-1) (by omega) (by omega)
 generalize Rd (i*4294967296) (n-1)=q at *
 show some (wr .i64 (q % 18446744073709551616))=_
 rw[wr_id (by omega) (by omega)]
 congr 1;omega
theorem r_apart(a b:Int) (a0:-9223372036854775808<=a) (a1:a<=9223372036854775807) (b0:-9223372036854775808<=b) (b1:b<=9223372036854775807):∃ l,q07_Apart (a,b,())=some l/\Dig l/\V l=Abs (a-b)/\l.length<=5:=by
 unfold q07_Apart
 dsimp only
 by_cases h:(a<0)↔(b<0)
 ·rw[dT (show decide (a<0)=decide (b<0) from decide_eq_decide.2 h),cnd_t,wr_id (by omega) (by omega)]
  obtain⟨l,e,h1,h2,h3⟩:=size (a-b) (by omega) (by omega)
  exact⟨l,by rw[e];rfl,h1,h2,by omega⟩
 ·rw[dF (show ¬ decide (a<0)=decide (b<0) from fun x=>h (decide_eq_decide.1 x)),cnd_f]
  obtain⟨l1,e1,g1,g2,g3⟩:=size a a0 a1
  obtain⟨l2,e2,k1,k2,k3⟩:=size b b0 b1
  obtain⟨l3,e3,m1,m2,m3⟩:=plus l1 l2 g1 k1 (by omega) (by omega)
  refine⟨l3,by rw[e1,bnd_mk,e2,bnd_mk,e3];rfl,m1,?_,by omega⟩
  rw[m2,g2,k2]
  unfold Abs
  split<;>split<;>split<;>omega
theorem r_lerp(a b t:Int) (a0:-9223372036854775808<=a) (a1:a<=9223372036854775807) (b0:-9223372036854775808<=b) (b1:b<=9223372036854775807) (t0:0<=t) (t1:t<=4294967296):q07_At (a,b,t,())=some (LerpS a b t):=by
 unfold q07_At LerpS
 dsimp only
 obtain⟨l1,e1,g1,g2,g3⟩:=r_apart a b a0 a1 b0 b1
 obtain⟨l2,e2,k1,k2,k3⟩:=size t (by omega) (by omega)
 obtain⟨l3,e3,m1,m2,m3⟩:=times l1 l2 g1 k1 (by omega) (by omega)
 obtain⟨l4,e4,p1,p2,p3⟩:=twos 32 (by omega)
 have e4':q02_Twos (32,())=some l4:=e4
 rw[show(2:Int) ^ 32=4294967296 from rfl] at p2
 obtain⟨l5,e5,q1,q2,q3⟩:=rounded l3 l4 m1 p1 (by omega) (by omega) (by omega)
 have ht:Abs t=t:=by unfold Abs;rw[if_neg (by omega)]
 rw[e1,bnd_mk,e2,bnd_mk,e3,bnd_mk,e4',bnd_mk,e5,bnd_mk,mod l5 q1,bnd_mk,t_mod l5 q1,q2,m2,g2,k2,p2,ht]
 have hd:0<=Abs (a-b):=by unfold Abs;split<;>omega
 have hb:Rd (Abs (a-b)*t) 4294967296<=Abs (a-b):=rd_bound (by omega) (Int.mul_le_mul_of_nonneg_left t1 hd)
 have hb0:=rd_nonneg (n:=Abs (a-b)*t) (d:=4294967296) (by omega) (Int.mul_nonneg hd t0)
 by_cases h:a<=b
 ·have e:Abs (a-b)=b-a:=by unfold Abs;split<;>omega
  rw[e] at hb hb0 ⊢
  generalize Rd ((b-a)*t) 4294967296=x at *
  rw[if_pos h,dT h]
  show some (wr .i64 (wr .u64 (wr .u64 a+x % 18446744073709551616)))=_
  congr 1
  rw[wru_mod,wru_mod]
  simp only[wr,IntKind.wrap,IntKind.signed,IntKind.bits,Bool.true_and,if_true]
  split<;>(simp at *;omega)
 ·have e:Abs (a-b)=a-b:=by unfold Abs;split<;>omega
  rw[e] at hb hb0 ⊢
  generalize Rd ((a-b)*t) 4294967296=x at *
  rw[if_neg h,dF h]
  show some (wr .i64 (wr .u64 (wr .u64 a-x % 18446744073709551616)))=_
  congr 1
  rw[wru_mod,wru_mod]
  simp only[wr,IntKind.wrap,IntKind.signed,IntKind.bits,Bool.true_and,if_true]
  split<;>(simp at *;omega)
end Go.Proofs.YtmomjjgokeffnaaGreat.F
namespace Go.Proofs.YtmomjjgokeffnaaGreat.F
open Go.VX
def sq:Nat->Int->Int
 | 0,x=>x
 | i+1,x=>tm (sq i x) (sq i x)
theorem sq_range(x:Int) (x0:0<=x) (x1:x<=4294967296):∀ i,0<=sq i x/\sq i x<=4294967296
 | 0=>⟨x0,x1⟩
 | i+1=>by
  have h:=sq_range x x0 x1 i
  exact tm_range h.1 h.2 h.1 h.2
theorem r_part(x y:Int) (x0:0<=x) (x1:x<=4503599627370496) (y0:0<=y) (y1:y<=4294967296):q04_Part (x,y,())=some (tm x y):=by
 rw[rpart x y (by omega) (by omega) (by omega) (by omega),mul_nn x y x0 x1 y0 y1]
theorem r_squares(x:Int) (x0:0<=x) (x1:x<=4294967296) (n:Nat) (hn:n<=1000):∃ l,q06_Squares (x,(n:Int),())=some l/\l.length=n/\∀ i,i<n->nth 0 l i=sq i x:=by
 unfold q06_Squares
 dsimp only
 obtain⟨r,e,h1,h2⟩:=loop_rule (f:=(fun(s2:Int×List (Int)×Int×Unit)=>cnd (decide (s2.2.2.1<(n:Int))) (bnd (cnd (decide (s2.2.2.1>0)) (bnd (q04_Part (s2.1,s2.1,())) fun r4=>some (r4,())) (some (s2.1,()))) fun j3=>bnd (app 17592186044416 s2.2.1 [j3.1]) fun v5=>inlE (j3.1,v5,wr .i64 (s2.2.2.1+1),())) (inrE (some (s2.2.1,())))))
  (fun s=>s.2.2.1=s.2.1.length/\s.2.1.length<=n/\s.1=sq (s.2.1.length-1) x/\∀ i,i<s.2.1.length->nth 0 s.2.1 i=sq i x) (fun s=>n-s.2.1.length) (fun r=>r.1.length=n/\∀ i,i<n->nth 0 r.1 i=sq i x) (fun s ⟨i0,i1,i2,i3⟩=>by
   obtain⟨y,o,i,_⟩:=s
   dsimp only at *
   subst i0 i2
   by_cases hk:o.length<n
   ·left
    have key:(cnd (decide ((o.length:Int)>0)) (bnd (q04_Part (sq (o.length-1) x,sq (o.length-1) x,())) fun r4=>some (r4,())) (some (sq (o.length-1) x,())))=some (sq o.length x,()):=by
     have hr:=sq_range x x0 x1 (o.length-1)
     by_cases h0:o.length=0
     ·rw[h0];rfl
     ·rw[dT (by omega),r_part _ _ hr.1 (by omega) hr.1 hr.2,show sq o.length x=tm (sq (o.length-1) x) (sq (o.length-1) x) by
       conv=>lhs;rw[show o.length=(o.length-1)+1 by omega]
       rfl]
      rfl
    rw[lt_true hk,cnd_t,key,bnd_mk,app_ok (by simp;omega),bnd_mk,wr_succ hk (by omega)]
    refine⟨_,rfl,⟨by simp,by simp;omega,by simp,fun j hj=>?_⟩,by simp;omega⟩
    simp at hj
    dsimp only
    by_cases hjo:j=o.length
    ·subst hjo;simp [nth,List.getD]
    ·rw[← i3 j (by omega)]
     simp [nth,List.getD,List.getElem?_append,show j<o.length by omega]
   ·right
    have hkn:o.length=n:=by omega
    refine⟨(o,()),by rw[hkn,lt_false];rfl,hkn,fun j hj=>i3 j (by omega)⟩) (x,[],0,()) ⟨by simp,by simp,by simp [sq],fun j hj=>by simp at hj⟩
 rw[e]
 exact⟨r.1,rfl,h1,h2⟩
theorem powF_zero(f:Nat) (x r:Int):powF f 0 x r=r:=by
 cases f<;>simp [powF]
theorem r_pow(x:Int) (n:Nat) (x0:0<=x) (x1:x<=4294967296) (hn:n<=1099511627776):q06_Of (x,(n:Int),())=some (powF 64 n x 4294967296):=by
 unfold q06_Of
 dsimp only
 obtain⟨⟨b,_⟩,e,b0,b1,b2⟩:=loop_rule (f:=(fun(s2:Int×Int×Unit)=>cnd (decide (s2.2.1>0)) (inlE (wr .i64 (s2.1+1),wr .i64 (Int.tdiv s2.2.1 2),())) (inrE (some (s2.1,())))))
  (fun s=>0<=s.1/\s.1<=41/\s.2.1=((n / 2 ^ s.1.toNat:Nat):Int)) (fun s=>s.2.1.toNat) (fun r=>0<=r.1/\r.1<=41/\n / 2 ^ r.1.toNat=0) (fun s ⟨i0,i1,i2⟩=>by
   obtain⟨b,m,_⟩:=s
   dsimp only at *
   obtain⟨b,rfl⟩:∃ k:Nat,b=k:=⟨b.toNat,by omega⟩
   rw[Int.toNat_natCast] at *
   subst i2
   have hle:n / 2 ^ b<=n:=Nat.div_le_self _ _
   have hb41:b=41->n / 2 ^ b=0:=fun h=>by subst h;exact Nat.div_eq_of_lt (by omega)
   generalize hy:n / 2 ^ b=y at *
   by_cases hm:(y:Int)>0
   ·left
    have hb:b<=40:=by
     by_cases hb:b<=40
     ·exact hb
     ·have:=hb41 (by omega)
      omega
    rw[dT hm,cnd_t,Int.tdiv_eq_ediv_of_nonneg (by omega),wr_id (x:=(b:Int)+1) (by omega) (by omega)]
    rw[wr_id (by omega) (by omega)]
    refine⟨_,rfl,⟨by dsimp only;omega,by dsimp only;omega,?_⟩,by dsimp only;omega⟩
    dsimp only
    rw[show((b:Int)+1).toNat=b+1 by omega,Nat.pow_succ,← Nat.div_div_eq_div_mul,hy]
    omega
   ·right
    refine⟨((b:Int),()),by rw[dF hm];rfl,i0,i1,?_⟩
    dsimp only
    rw[Int.toNat_natCast,hy]
    omega) (0,(n:Int),()) ⟨by simp,by simp,by simp⟩
 dsimp only at b0 b1 b2
 obtain⟨b,rfl⟩:∃ k:Nat,b=k:=⟨b.toNat,by omega⟩
 rw[Int.toNat_natCast] at b2
 obtain⟨l,e2,hl,hs⟩:=r_squares x x0 x1 b (by omega)
 rw[e,bnd_mk]
 dsimp only
 rw[e2,bnd_mk]
 obtain⟨⟨r,_⟩,e3,h3⟩:=loop_rule (f:=(fun(s5:Int×Int×Int×Unit)=>cnd (decide (s5.2.2.1<(l.length:Int))) (bnd (cnd (decide ((Int.tmod s5.1 2)=1)) (bnd (ati l s5.2.2.1) fun v7=>bnd (q04_Part (s5.2.1,v7,())) fun r8=>some (r8,())) (some (s5.2.1,()))) fun j6=>inlE (wr .i64 (Int.tdiv s5.1 2),j6.1,wr .i64 (s5.2.2.1+1),())) (inrE (some (s5.2.1,())))))
  (fun s=>0<=s.2.2.1/\s.2.2.1<=b/\s.1=((n / 2 ^ s.2.2.1.toNat:Nat):Int)/\0<=s.2.1/\s.2.1<=4294967296/\powF (64-s.2.2.1.toNat) (n / 2 ^ s.2.2.1.toNat) (sq s.2.2.1.toNat x) s.2.1=powF 64 n x 4294967296) (fun s=>b-s.2.2.1.toNat) (fun r=>r.1=powF 64 n x 4294967296) (fun s ⟨i0,i1,i2,i3,i4,i5⟩=>by
   obtain⟨m,r,i,_⟩:=s
   dsimp only at *
   obtain⟨i,rfl⟩:∃ k:Nat,i=k:=⟨i.toNat,by omega⟩
   rw[Int.toNat_natCast] at *
   subst i2
   have hq:=sq_range x x0 x1 i
   have hle:n / 2 ^ i<=n:=Nat.div_le_self _ _
   have hyb:i=b->n / 2 ^ i=0:=fun h=>by rw[h];exact b2
   generalize hy:n / 2 ^ i=y at *
   by_cases hi:i<b
   ·left
    rw[dT (by omega:(i:Int)<(l.length:Int)),cnd_t,Int.tmod_eq_emod_of_nonneg (by omega),Int.tdiv_eq_ediv_of_nonneg (by omega),wr_id (x:=(y:Int) / 2) (by omega) (by omega),wr_id (x:=(i:Int)+1) (by omega) (by omega),ati_d 0 (by omega),hs i hi,bnd_mk,r_part r (sq i x) i3 (by omega) hq.1 hq.2]
    have key:(cnd (decide ((y:Int) % 2=1)) (bnd (some (tm r (sq i x))) fun r8=>some (r8,())) (some (r,())))=some (if y % 2=1 then tm r (sq i x) else r,()):=by
     by_cases hb:y % 2=1
     ·rw[dT (by omega),if_pos hb];rfl
     ·rw[dF (by omega),if_neg hb];rfl
    rw[key,bnd_mk]
    have ht:=tm_range i3 i4 hq.1 hq.2
    refine⟨_,rfl,⟨by dsimp only;omega,by dsimp only;omega,?_,?_,?_,?_⟩,by dsimp only;omega⟩
    ·dsimp only
     rw[show((i:Int)+1).toNat=i+1 by omega,Nat.pow_succ,← Nat.div_div_eq_div_mul,hy];omega
    ·dsimp only;split<;>omega
    ·dsimp only;split<;>omega
    ·dsimp only
     rw[show((i:Int)+1).toNat=i+1 by omega,Nat.pow_succ,← Nat.div_div_eq_div_mul,hy,← i5,show 64-i=(64-(i+1))+1 by omega]
     simp only[powF]
     by_cases hz:y=0
     ·rw[if_pos hz,hz]
      simp [powF_zero]
     ·rw[if_neg hz]
      rfl
   ·right
    have hib:i=b:=by omega
    subst hib
    refine⟨(r,()),by rw[dF (by omega)];rfl,?_⟩
    rw[hyb rfl,powF_zero] at i5
    exact i5) ((n:Int),4294967296,0,()) ⟨by simp,by simp,by simp,by simp,by simp,by simp [sq]⟩
 rw[e3,bnd_mk]
 dsimp only at h3
 rw[h3]
end Go.Proofs.YtmomjjgokeffnaaGreat.F
namespace Go.Proofs.YtmomjjgokeffnaaGreat.F
open Go.VX
theorem tm_q{u x:Int} (u0:0<=u) (u1:u<=1073741824) (x0:0<=x):0<=tm u x/\tm u x<=x / 4+1:=by
 refine⟨rd_nonneg (by omega) (Int.mul_nonneg u0 x0),rd_bound (by omega) ?_⟩
 have h1:u*x<=1073741824*x:=Int.mul_le_mul_of_nonneg_right u1 x0
 omega
def polyS(u:Int):Int:=4294967296-tm u (4014944880-tm u (1372256329-tm u (245884610-tm u (27198923-tm u 2044063))))
theorem poly_b{u:Int} (u0:0<=u) (u1:u<=1073741824):0<=27198923-tm u 2044063/\27198923-tm u 2044063<=27198923/\0<=245884610-tm u (27198923-tm u 2044063)/\245884610-tm u (27198923-tm u 2044063)<=245884610 /\
  0<=1372256329-tm u (245884610-tm u (27198923-tm u 2044063))/\1372256329-tm u (245884610-tm u (27198923-tm u 2044063))<=1372256329/\0<=4014944880-tm u (1372256329-tm u (245884610-tm u (27198923-tm u 2044063)))/\4014944880-tm u (1372256329-tm u (245884610-tm u (27198923-tm u 2044063)))<=4014944880/\0<=polyS u/\polyS u<=4294967296:=by
 have h1:=tm_q u0 u1 (by omega:(0:Int)<=2044063)
 have h2:=tm_q u0 u1 (by omega:(0:Int)<=27198923-tm u 2044063)
 have h3:=tm_q u0 u1 (by omega:(0:Int)<=245884610-tm u (27198923-tm u 2044063))
 have h4:=tm_q u0 u1 (by omega:(0:Int)<=1372256329-tm u (245884610-tm u (27198923-tm u 2044063)))
 have h5:=tm_q u0 u1 (by omega:(0:Int)<=4014944880-tm u (1372256329-tm u (245884610-tm u (27198923-tm u 2044063))))
 unfold polyS
 omega
def lowS(t:Int):Int:=tm (4294967296-4*tm t t) (polyS (tm t t))
theorem u_b{t:Int} (t0:0<=t) (t1:t<=2147483648):0<=tm t t/\tm t t<=1073741824:=by
 refine⟨rd_nonneg (by omega) (Int.mul_nonneg t0 t0),rd_bound (by omega) ?_⟩
 have h1:t*t<=2147483648*t:=Int.mul_le_mul_of_nonneg_right t1 t0
 omega
theorem low_b{t:Int} (t0:0<=t) (t1:t<=2147483648):0<=lowS t/\lowS t<=4294967296:=by
 have hu:=u_b t0 t1
 have hp:=poly_b hu.1 hu.2
 exact tm_range (by omega) (by omega) hp.2.2.2.2.2.2.2.2.1 hp.2.2.2.2.2.2.2.2.2
theorem r_wtimes(x y:Int) (x0:0<=x) (x1:x<=4503599627370496) (y0:0<=y) (y1:y<=4294967296):q08_times (x,y,())=some (tm x y):=by
 unfold q08_times
 dsimp only
 rw[rmul x y (by omega) (by omega) (by omega) (by omega),mul_nn x y x0 x1 y0 y1]
 rfl
theorem p_wtimes(x y:Int) (x0:0<=x) (x1:x<=4503599627370496) (y0:0<=y) (y1:y<=4294967296):wave_times (x,y,())=some (tm x y):=by
 unfold wave_times
 dsimp only
 rw[p_fixmul x y (by omega) (by omega) (by omega) (by omega),mul_nn x y x0 x1 y0 y1]
 rfl
theorem r_low(t:Int) (t0:0<=t) (t1:t<=2147483648):q08_low (t,())=some (lowS t):=by
 unfold q08_low lowS
 dsimp only
 have hu:=u_b t0 t1
 rw[r_wtimes t t t0 (by omega) t0 (by omega),bnd_mk]
 generalize tm t t=u at *
 have hp:=poly_b hu.1 hu.2
 have h5:=hp.2.2.2.2.2.2.2.2
 unfold polyS at *
 rw[r_wtimes u 2044063 hu.1 (by omega) (by omega) (by omega),bnd_mk,wr_id (x:=27198923-_) (by omega) (by omega),
  r_wtimes u _ hu.1 (by omega) (by omega) (by omega),bnd_mk,wr_id (x:=245884610-_) (by omega) (by omega),
  r_wtimes u _ hu.1 (by omega) (by omega) (by omega),bnd_mk,wr_id (x:=1372256329-_) (by omega) (by omega),
  r_wtimes u _ hu.1 (by omega) (by omega) (by omega),bnd_mk,wr_id (x:=4014944880-_) (by omega) (by omega),
  r_wtimes u _ hu.1 (by omega) (by omega) (by omega),bnd_mk,wr_id (x:=4*u) (by omega) (by omega),wr_id (x:=4294967296-4*u) (by omega) (by omega),wr_id (by omega) (by omega),
  r_wtimes _ _ (by omega) (by omega) (by omega) (by omega)]
 rfl
theorem p_poly(u:Int) (u0:0<=u) (u1:u<=1073741824):wave_poly (u,())=some (polyS u):=by
 have hp:=poly_b u0 u1
 unfold wave_poly
 dsimp only
 have st:∀ (k v i:Int) (x:Int),ati [2044063,27198923,245884610,1372256329,4014944880,4294967296] i=some k->0<=i->i<6->0<=x->x<=4294967296->-9223372036854775808<=k-tm u x->k-tm u x<=9223372036854775807->(fun(s2:Int×Int×Unit)=>cnd (decide (s2.2.1<6)) (bnd (ati [2044063,27198923,245884610,1372256329,4014944880,4294967296] s2.2.1) fun v3=>bnd (wave_times (u,s2.1,())) fun r4=>inlE (wr .i64 (v3-r4),wr .i64 (s2.2.1+1),())) (inrE (some (s2.1,())):Option ((Int×Int×Unit) ⊕ (Int×Unit)))) (x,i,())=some (.inl (k-tm u x,i+1,())):=by
  intro k v i x hk h0 h1 h2 h3 h4 h5
  dsimp only
  rw[dT h1,cnd_t,hk,bnd_mk,p_wtimes u x u0 (by omega) h2 h3,bnd_mk,wr_id h4 h5,wr_id (by omega) (by omega)]
  rfl
 have t0:tm u 0=0:=by unfold tm;rw[Int.mul_zero];rfl
 have h5:=hp.2.2.2.2.2.2.2.2
 unfold polyS at *
 rw[loopP_step (st 2044063 0 0 0 rfl (by omega) (by omega) (by omega) (by omega) (by omega) (by omega)),t0,show(2044063:Int)-0=2044063 from rfl,show(0:Int)+1=1 from rfl,
  loopP_step (st 27198923 0 1 2044063 rfl (by omega) (by omega) (by omega) (by omega) (by omega) (by omega)),show(1:Int)+1=2 from rfl,
  loopP_step (st 245884610 0 2 _ rfl (by omega) (by omega) (by omega) (by omega) (by omega) (by omega)),show(2:Int)+1=3 from rfl,
  loopP_step (st 1372256329 0 3 _ rfl (by omega) (by omega) (by omega) (by omega) (by omega) (by omega)),show(3:Int)+1=4 from rfl,
  loopP_step (st 4014944880 0 4 _ rfl (by omega) (by omega) (by omega) (by omega) (by omega) (by omega)),show(4:Int)+1=5 from rfl,
  loopP_step (st 4294967296 0 5 _ rfl (by omega) (by omega) (by omega) (by omega) (by omega) (by omega)),show(5:Int)+1=6 from rfl,
  loopP_done (by rfl),bnd_mk]
theorem p_cos(t:Int) (t0:0<=t) (t1:t<=2147483648):wave_cos (t,())=some (lowS t):=by
 unfold wave_cos lowS
 dsimp only
 have hu:=u_b t0 t1
 rw[p_wtimes t t t0 (by omega) t0 (by omega),bnd_mk]
 generalize tm t t=u at *
 have hp:=poly_b hu.1 hu.2
 have h5:=hp.2.2.2.2.2.2.2.2
 rw[p_poly u hu.1 hu.2,bnd_mk,show(2:Int) ^ 2=4 from rfl,wr_id (x:=u*4) (by omega) (by omega),wr_id (by omega) (by omega),Int.mul_comm u 4,p_wtimes _ _ (by omega) (by omega) h5.1 h5.2]
 rfl
def WaveS(t:Int):Int:=if t>2147483648 then 4294967296-(4294967296+lowS (4294967296-t)) / 2 else(4294967296+lowS t) / 2
theorem waveS_b(t:Int) (t0:0<=t) (t1:t<=4294967296):0<=WaveS t/\WaveS t<=4294967296:=by
 unfold WaveS
 by_cases h:t>2147483648
 ·have:=low_b (t:=4294967296-t) (by omega) (by omega)
  rw[if_pos h];omega
 ·have:=low_b (t:=t) t0 (by omega)
  rw[if_neg h];omega
theorem p_wave(t:Int) (t0:0<=t) (t1:t<=4294967296):wave_At (t,())=some (WaveS t,0,()):=by
 unfold wave_At wave_Cos wave_may WaveS
 dsimp only
 rw[dT (by omega:t>=0),dT t1]
 simp only[bnd_mk,cnd_t,cnd_f,Bool.not_true]
 rw[show(2:Int) ^ 1=2 from rfl]
 by_cases h:t>2147483648
 ·have hl:=low_b (t:=4294967296-t) (by omega) (by omega)
  rw[dT h,cnd_t,if_pos h,wr_id (x:=4294967296-t) (by omega) (by omega),p_cos _ (by omega) (by omega)]
  generalize lowS (4294967296-t)=c at *
  simp only[bnd_mk]
  rw[wr_id (x:=0-c) (by omega) (by omega)]
  simp only[decide_true,Bool.not_true,cnd_f]
  by_cases hc:0-c<0
  ·rw[dT hc,cnd_t,wr_id (x:=4294967296-(0-c)) (by omega) (by omega),fdiv_pos 2 (by omega),wr_id (by omega) (by omega)]
   congr 2;omega
  ·rw[dF hc,cnd_f,wr_id (x:=4294967296+(0-c)) (by omega) (by omega),fdiv_pos 2 (by omega)]
   congr 2;omega
 ·have hl:=low_b (t:=t) t0 (by omega)
  rw[dF h,cnd_f,if_neg h,p_cos _ t0 (by omega)]
  generalize lowS t=c at *
  simp only[bnd_mk,decide_true,Bool.not_true,cnd_f]
  rw[dF (by omega:¬ c<0),cnd_f,wr_id (x:=4294967296+c) (by omega) (by omega),fdiv_pos 2 (by omega)]
theorem r_wave_low(t:Int) (t0:0<=t) (t1:t<=2147483648) (n:Nat):q08_At_r (n+1) (t,())=some (WaveS t):=by
 simp only[q08_At_r]
 have hl:=low_b (t:=t) t0 (by omega)
 rw[dF (by omega:¬ t>2147483648),cnd_f,r_low t t0 t1,bnd_mk,wr_id (x:=4294967296+lowS t) (by omega) (by omega),Int.tdiv_eq_ediv_of_nonneg (by omega),wr_id (by omega) (by omega)]
 unfold WaveS
 rw[if_neg (by omega)]
theorem r_wave(t:Int) (t0:0<=t) (t1:t<=4294967296):q08_At (t,())=some (WaveS t):=by
 have h2:∀ n,q08_At_r (n+2) (t,())=some (WaveS t):=by
  intro n
  by_cases h:t>2147483648
  ·have hw:=waveS_b (4294967296-t) (by omega) (by omega)
   rw[show n+2=(n+1)+1 from rfl]
   unfold q08_At_r
   dsimp only
   rw[dT h,cnd_t,wr_id (x:=4294967296-t) (by omega) (by omega),r_wave_low _ (by omega) (by omega) n,bnd_mk,wr_id (by omega) (by omega)]
   congr 1
   unfold WaveS
   rw[if_neg (by omega),if_pos h]
  ·exact r_wave_low t t0 (by omega) (n+1)
 refine recP_is (fun n y hy=>?_) 2 (h2 0)
 match n with
 | 0=>cases hy
 | 1 =>
  by_cases h:t>2147483648
  ·simp only[q08_At_r] at hy
   rw[dT h,cnd_t] at hy
   cases hy
  ·rw[r_wave_low t t0 (by omega) 0] at hy
   exact(Option.some.inj hy).symm
 | n+2 =>
  rw[h2 n] at hy
  exact(Option.some.inj hy).symm
end Go.Proofs.YtmomjjgokeffnaaGreat.F
namespace Go.Proofs.YtmomjjgokeffnaaGreat.F
open Go.VX
def CurveS(c:CurveD) (i n:Int):Int :=
 if c.1=2 then LerpS c.2.1 c.2.2.1 (ShareS i n) else if c.1=3 then LerpS c.2.2.1 c.2.1 (PowS (4294967296-ShareS i n) c.2.2.2.1) else
 if c.1=4 then(if tm c.2.1 (PowS c.2.2.2.1 i)>c.2.2.1 then tm c.2.1 (PowS c.2.2.2.1 i) else c.2.2.1) else
 if c.1=5 then LerpS c.2.2.1 c.2.1 (WaveS (ShareS i n)) else c.2.1
theorem lerp_one(a b:Int):LerpS a b 4294967296=b:=by
 unfold LerpS
 rw[rd_exact (by omega),rd_exact (by omega)]
 split<;>omega
theorem p_at5(c:CurveD) (i n:Int) (hc:CurveOk c) (n0:1<=n) (n1:n<=1048576) (i0:0<=i) (i1:i<n) (hk:c.1=5):curve_At (c,i,n,())=some (LerpS c.2.2.1 c.2.1 (WaveS (ShareS i n)),0,()):=by
 have hc':=hc
 unfold CurveOk at hc'
 have ht:=shareS_range i n n0 i0 i1
 rw[p_at c i n hc n0 n1 i0 i1,p_shareS i n n0 n1 i0 i1,bnd_mk,dF (by omega:¬ c.1=4),dF (by omega:¬ c.1=2),cnd_f,cnd_f]
 dsimp only
 have hw:=waveS_b (ShareS i n) ht.1 ht.2
 have e:curve_weight (c,ShareS i n,())=some (WaveS (ShareS i n)):=by
  unfold curve_weight
  dsimp only
  rw[dF (by omega:¬ c.1=3),cnd_f,dT hk,cnd_t,p_wave _ ht.1 ht.2]
  rfl
 rw[e,bnd_mk,p_lerp _ _ _ (by omega) (by omega) (by omega) (by omega) hw.1 hw.2]
 rfl
theorem p_at1(c:CurveD) (i n:Int) (hc:CurveOk c) (n0:1<=n) (n1:n<=1048576) (i0:0<=i) (i1:i<n) (hk:c.1=1):curve_At (c,i,n,())=some (c.2.1,0,()):=by
 have hc':=hc
 unfold CurveOk at hc'
 have ht:=shareS_range i n n0 i0 i1
 rw[p_at c i n hc n0 n1 i0 i1,p_shareS i n n0 n1 i0 i1,bnd_mk,dF (by omega:¬ c.1=4),dF (by omega:¬ c.1=2),cnd_f,cnd_f]
 dsimp only
 have e:curve_weight (c,ShareS i n,())=some 4294967296:=by
  unfold curve_weight
  dsimp only
  rw[dF (by omega:¬ c.1=3),cnd_f,dF (by omega:¬ c.1=5),cnd_f]
 rw[e,bnd_mk,p_lerp _ _ _ (by omega) (by omega) (by omega) (by omega) (by omega) (by omega),bnd_mk,lerp_one]
theorem p_atS(c:CurveD) (i n:Int) (hc:CurveOk c) (n0:1<=n) (n1:n<=1048576) (i0:0<=i) (i1:i<n):curve_At (c,i,n,())=some (CurveS c i n,0,()):=by
 unfold CurveS
 by_cases h2:c.1=2
 ·rw[if_pos h2];exact p_at2 c i n hc n0 n1 i0 i1 h2
 by_cases h3:c.1=3
 ·rw[if_neg h2,if_pos h3];exact p_at3 c i n hc n0 n1 i0 i1 h3
 by_cases h4:c.1=4
 ·rw[if_neg h2,if_neg h3,if_pos h4];exact p_at4 c i n hc n0 n1 i0 i1 h4
 by_cases h5:c.1=5
 ·rw[if_neg h2,if_neg h3,if_neg h4,if_pos h5];exact p_at5 c i n hc n0 n1 i0 i1 h5
 ·have hc':=hc
  unfold CurveOk at hc'
  rw[if_neg h2,if_neg h3,if_neg h4,if_neg h5];exact p_at1 c i n hc n0 n1 i0 i1 (by omega)
theorem r_powS(x n:Int) (x0:0<=x) (x1:x<=4294967296) (n0:0<=n) (n1:n<=1099511627776):q06_Of (x,n,())=some (PowS x n):=by
 obtain⟨k,rfl⟩:∃ k:Nat,n=k:=⟨n.toNat,by omega⟩
 exact r_pow x k x0 x1 (by omega)
theorem r_atS(c:CurveD) (i n:Int) (hc:CurveOk c) (n0:1<=n) (n1:n<=1048576) (i0:0<=i) (i1:i<n):q09_At (c,i,n,())=some (CurveS c i n):=by
 have hc':=hc
 unfold CurveOk at hc'
 have ht:=shareS_range i n n0 i0 i1
 unfold q09_At CurveS
 dsimp only
 rw[r_share i n n0 n1 i0 i1,bnd_mk]
 by_cases h2:c.1=2
 ·rw[if_pos h2,dT h2,cnd_t,r_lerp _ _ _ (by omega) (by omega) (by omega) (by omega) ht.1 ht.2];rfl
 by_cases h3:c.1=3
 ·have hw:=powS_mono c.2.2.2.1 (x:=4294967296-ShareS i n) (by omega) (Int.le_refl _) (by omega)
  rw[if_neg h2,if_pos h3,dF h2,cnd_f,dT h3,cnd_t,wr_id (by omega) (by omega),r_powS _ _ (by omega) (by omega) (by omega) (by omega),bnd_mk,r_lerp _ _ _ (by omega) (by omega) (by omega) (by omega) hw.1 hw.2.2];rfl
 by_cases h4:c.1=4
 ·have hw:=powS_mono i (x:=c.2.2.2.1) (by omega) (Int.le_refl _) (by omega)
  rw[if_neg h2,if_neg h3,if_pos h4,dF h2,cnd_f,dF h3,cnd_f,dT h4,cnd_t,r_powS _ _ (by omega) (by omega) (by omega) (by omega),bnd_mk,r_part _ _ (by omega) (by omega) hw.1 hw.2.2,bnd_mk]
  generalize tm c.2.1 (PowS c.2.2.2.1 i)=x
  by_cases hx:x<c.2.2.1
  ·rw[dT hx,if_neg (by omega)];rfl
  ·rw[dF hx]
   by_cases hy:x>c.2.2.1
   ·rw[if_pos hy];rfl
   ·rw[if_neg hy,cnd_f]
    congr 1;omega
 by_cases h5:c.1=5
 ·have hw:=waveS_b (ShareS i n) ht.1 ht.2
  rw[if_neg h2,if_neg h3,if_neg h4,if_pos h5,dF h2,cnd_f,dF h3,cnd_f,dF h4,cnd_f,dT h5,cnd_t,r_wave _ ht.1 ht.2,bnd_mk,r_lerp _ _ _ (by omega) (by omega) (by omega) (by omega) hw.1 hw.2];rfl
 ·rw[if_neg h2,if_neg h3,if_neg h4,if_neg h5,dF h2,cnd_f,dF h3,cnd_f,dF h4,cnd_f,dF h5,cnd_f]
end Go.Proofs.YtmomjjgokeffnaaGreat.F
namespace Go.Proofs.YtmomjjgokeffnaaGreat.F
open Go.VX
open Classical
def BoundsS(c:CurveD):Int×Int×Unit:=if c.1=1\/c.2.1=c.2.2.1 then(c.2.1,c.2.1,()) else if c.2.1<c.2.2.1 then(c.2.1,c.2.2.1,()) else(c.2.2.1,c.2.1,())
theorem lerp_in(a b t:Int) (t0:0<=t) (t1:t<=4294967296):(a<=b->a<=LerpS a b t/\LerpS a b t<=b)/\(b<=a->b<=LerpS a b t/\LerpS a b t<=a):=by
 unfold LerpS
 by_cases h:a<=b
 ·rw[if_pos h]
  have h1:=rd_nonneg (d:=4294967296) (by omega) (Int.mul_nonneg (by omega:0<=b-a) t0)
  have h2:=rd_bound (x:=b-a) (d:=4294967296) (by omega) (Int.mul_le_mul_of_nonneg_left t1 (by omega:0<=b-a))
  omega
 ·rw[if_neg h]
  have h1:=rd_nonneg (d:=4294967296) (by omega) (Int.mul_nonneg (by omega:0<=a-b) t0)
  have h2:=rd_bound (x:=a-b) (d:=4294967296) (by omega) (Int.mul_le_mul_of_nonneg_left t1 (by omega:0<=a-b))
  omega
theorem tm_le{a p:Int} (a0:0<=a) (p0:0<=p) (p1:p<=4294967296):0<=tm a p/\tm a p<=a :=
 ⟨rd_nonneg (by omega) (Int.mul_nonneg a0 p0),rd_bound (by omega) (Int.mul_le_mul_of_nonneg_left p1 a0)⟩
theorem curveS_in(c:CurveD) (i n:Int) (hc:CurveOk c) (n0:1<=n) (i0:0<=i) (i1:i<n):(BoundsS c).1<=CurveS c i n/\CurveS c i n<=(BoundsS c).2.1:=by
 have hc':=hc
 unfold CurveOk at hc'
 have ht:=shareS_range i n n0 i0 i1
 have key:(c.1=1/\CurveS c i n=c.2.1)\/(c.2.1<=c.2.2.1->c.2.1<=CurveS c i n/\CurveS c i n<=c.2.2.1)/\(c.2.2.1<=c.2.1->c.2.2.1<=CurveS c i n/\CurveS c i n<=c.2.1):=by
  unfold CurveS
  by_cases h2:c.1=2
  ·rw[if_pos h2];exact .inr (lerp_in _ _ _ ht.1 ht.2)
  by_cases h3:c.1=3
  ·rw[if_neg h2,if_pos h3]
   have hw:=powS_mono c.2.2.2.1 (x:=4294967296-ShareS i n) (by omega) (Int.le_refl _) (by omega)
   exact .inr (lerp_in _ _ _ hw.1 hw.2.2).symm
  by_cases h4:c.1=4
  ·rw[if_neg h2,if_neg h3,if_pos h4]
   have hw:=powS_mono i (x:=c.2.2.2.1) (by omega) (Int.le_refl _) (by omega)
   have hm:=tm_le (a:=c.2.1) (by omega) hw.1 hw.2.2
   right
   split<;>omega
  by_cases h5:c.1=5
  ·rw[if_neg h2,if_neg h3,if_neg h4,if_pos h5]
   have hw:=waveS_b (ShareS i n) ht.1 ht.2
   exact .inr (lerp_in _ _ _ hw.1 hw.2).symm
  ·rw[if_neg h2,if_neg h3,if_neg h4,if_neg h5];exact .inl ⟨by omega,rfl⟩
 unfold BoundsS
 by_cases h1:c.1=1\/c.2.1=c.2.2.1
 ·rw[if_pos h1]
  dsimp only
  rcases key with⟨_,k⟩ | k
  ·omega
  ·rcases h1 with h1 | h1
   ·have k2:=k.2 (by omega)
    unfold CurveS at k2 ⊢
    rw[if_neg (by omega),if_neg (by omega),if_neg (by omega),if_neg (by omega)]
    omega
   ·have k1:=k.1 (by omega)
    omega
 ·rw[if_neg h1]
  rcases key with⟨k,_⟩ | k
  ·omega
  ·by_cases h2:c.2.1<c.2.2.1
   ·rw[if_pos h2]
    exact k.1 (by omega)
   ·rw[if_neg h2]
    exact k.2 (by omega)
end Go.Proofs.YtmomjjgokeffnaaGreat.F
namespace Go.Proofs.YtmomjjgokeffnaaGreat.F
open Go.VX
open Classical
theorem grow_loop{σ ρ:Type} (f:σ->Option (σ ⊕ ρ)) (st:Nat->σ) (n:Nat) (r:ρ) (s0:σ) (h0:st 0=s0) (h1:∀ k,k<n->f (st k)=some (.inl (st (k+1)))) (h2:f (st n)=some (.inr r)):loopP f s0=some r:=by
 subst h0
 have key:∀ k,k<=n->loopP f (st 0)=loopP f (st k):=by
  intro k
  induction k with
  | zero=>intro _;rfl
  | succ k ih=>intro hk;rw[ih (by omega),loopP_step (h1 k (by omega))]
 rw[key n (Nat.le_refl _),loopP_done h2]
theorem dec_no{P:Prop} {i:Decidable P} (h:¬ P):false=@decide P i:=(dF h).symm
theorem dec_yes{P:Prop} {i:Decidable P} (h:P):true=@decide P i:=(dT h).symm
theorem max0(d:Int):maxL d [0]=if d<0 then 0 else d:=rfl
theorem del_nn(r:RuleD):0<=DelS r:=by unfold DelS;split<;>omega
theorem del_in(r:RuleD) (h:In64 r.2.1):DelS r<=9223372036854775807:=by unfold DelS;unfold In64 at h;split<;>omega
theorem sg_pos(m:Int) (h:0<=m):0<=(Sg m false).1/\(Sg m false).1<=9223372036854775807:=by
 unfold Sg
 by_cases c:m>9223372036854775808\/(m=9223372036854775808/\false=false)
 ·rw[if_pos c];exact⟨by decide,by decide⟩
 ·rw[if_neg c,if_neg Bool.false_ne_true]
  dsimp only
  have:¬ (m=9223372036854775808):=fun k=>c (.inr ⟨k,rfl⟩)
  omega
theorem mul_pos(x y:Int) (hx:0<=x) (hy:0<=y):0<=(MulS x y).1/\(MulS x y).1<=9223372036854775807:=by
 unfold MulS
 rw[dF (by omega:¬ x<0),dF (by omega:¬ y<0)]
 refine sg_pos _ (rd_nonneg (by omega) (Int.mul_nonneg ?_ ?_))<;>unfold Abs<;>rw[if_neg (by omega)]<;>assumption
theorem gap_range(b:Int) (r:RuleD) (hb:In64 b) (hd:In64 r.2.1):0<=(GapV b r).1/\(GapV b r).1<=9223372036854775807:=by
 unfold GapV
 unfold In64 at hb
 have ha:=abs_b b hb.1 hb.2
 split
 ·refine mul_pos _ _ ?_ (del_nn r)
  split<;>omega
 ·exact⟨del_nn r,del_in r hd⟩
theorem p_gap(b:Int) (r:RuleD) (hb:In64 b) (hd:In64 r.2.1):better_Gap (b,r,())=some ((GapV b r).1,decide ((GapV b r).2.1=0),()):=by
 have hd0:=del_nn r
 have hd1:=del_in r hd
 unfold better_Gap GapV
 dsimp only
 rw[max0,show(if r.2.1<0 then 0 else r.2.1)=DelS r from rfl]
 unfold In64 at hb
 have ha:=abs_b b hb.1 hb.2
 cases r.2.2.1 with
 | false=>rfl
 | true =>
  rw[Bool.not_true,cnd_f,if_pos rfl,p_size b hb.1 hb.2,bnd_mk]
  have hm:minL (Abs b) [9223372036854775807]=if Abs b=9223372036854775808 then 9223372036854775807 else Abs b:=by
   simp only[minL]
   split<;>split<;>omega
  rw[hm]
  generalize hA:(if Abs b=9223372036854775808 then 9223372036854775807 else Abs b)=A
  have hA2:0<=A/\A<=9223372036854775807:=by rw[← hA];split<;>omega
  rw[wr_id (by omega) (by omega),p_fixmul A (DelS r) (by omega) (by omega) (by omega) (by omega)]
  rfl
theorem r_gap(b:Int) (r:RuleD) (hb:In64 b) (hd:In64 r.2.1):q29_Gap (b,r,())=some ((GapV b r).1,decide ((GapV b r).2.1=0),()):=by
 have hd0:=del_nn r
 have hd1:=del_in r hd
 unfold q29_Gap GapV
 dsimp only
 have hj:∀ {β:Type} (K:Int×Unit->Option β),bnd (cnd (decide (r.2.1<0)) (some ((0:Int),())) (some (r.2.1,()))) K=K (DelS r,()):=fun K=>by
  unfold DelS
  by_cases h:r.2.1<0
  ·rw[dT h,if_pos h];rfl
  ·rw[dF h,if_neg h];rfl
 rw[hj]
 unfold In64 at hb
 have ha:=abs_b b hb.1 hb.2
 cases r.2.2.1 with
 | false=>rfl
 | true =>
  rw[Bool.not_true,cnd_f,if_pos rfl]
  have hj2:∀ {β:Type} (K:Int×Unit->Option β),bnd (cnd (decide (b=-9223372036854775808)) (some ((9223372036854775807:Int),())) (some (b,()))) (fun j2=>bnd (cnd (decide (j2.1<0)) (some (wr .i64 (0-j2.1),())) (some (j2.1,()))) K)=K ((if Abs b=9223372036854775808 then 9223372036854775807 else Abs b),()):=fun K=>by
   by_cases h:b=-9223372036854775808
   ·subst h;rfl
   ·rw[dF h,cnd_f,bnd_mk]
    dsimp only
    have h2:¬ Abs b=9223372036854775808:=by unfold Abs;split<;>omega
    rw[if_neg h2]
    unfold Abs
    by_cases h3:b<0
    ·rw[dT h3,cnd_t,if_pos h3,bnd_mk,wr_id (by omega) (by omega)]
     rw[show(0:Int)-b=-b by omega]
    ·rw[dF h3,cnd_f,if_neg h3];rfl
  rw[hj2]
  generalize hA:(if Abs b=9223372036854775808 then 9223372036854775807 else Abs b)=A
  have hA2:0<=A/\A<=9223372036854775807:=by rw[← hA];split<;>omega
  dsimp only
  rw[rmul A (DelS r) (by omega) (by omega) (by omega) (by omega)]
  rfl
theorem p_is(x b:Int) (r:RuleD) (hx:In64 x) (hb:In64 b) (hd:In64 r.2.1):better_Is (x,b,r,())=some (decide (IsB x b r)):=by
 have hg:=gap_range b r hb hd
 unfold better_Is better_apart
 dsimp only
 rw[p_gap b r hb hd]
 unfold IsB
 generalize (GapV b r).1=g at *
 generalize (GapV b r).2.1=e at *
 unfold In64 at hx hb
 have key:∀ hi lo:Int,-9223372036854775808<=hi->hi<=9223372036854775807->-9223372036854775808<=lo->lo<=9223372036854775807->Abs (x-b)=Abs (hi-lo) ->
   (bnd (some (wr .u64 ((wr .u64 hi)-(wr .u64 lo)),decide (hi>lo),())) fun r2:Int×Bool×Unit=>bnd (some (g,decide (e=0),())) fun r3:Int×Bool×Unit=>bnd (cnd r2.2.1 (some r3.2.1) (some false)) fun j4=>bnd (cnd j4 (some (decide (r2.1>(wr .u64 r3.1)))) (some false)) fun j5=>some j5)=some (decide (lo<hi/\e=0/\g<Abs (x-b))):=by
  intro hi lo h1 h2 h3 h4 h5
  rw[h5]
  simp only[bnd_mk,wru_mod]
  by_cases h:hi>lo
  ·rw[dT h,cnd_t,bnd_mk]
   by_cases he:e=0
   ·rw[dT he,cnd_t,bnd_mk]
    refine congrArg some (decide_eq_decide.2 ?_)
    unfold Abs
    rw[if_neg (by omega)]
    omega
   ·rw[dF he,cnd_f,bnd_mk,dF (fun k:lo<hi/\e=0/\g<Abs (hi-lo)=>he k.2.1)]
  ·rw[dF h,cnd_f,bnd_mk,cnd_f,bnd_mk,dF (fun k:lo<hi/\e=0/\g<Abs (hi-lo)=>h k.1)]
 cases r.1 with
 | true =>
  rw[cnd_t,bnd_mk]
  refine(key x b hx.1 hx.2 hb.1 hb.2 rfl).trans (congrArg some (decide_eq_decide.2 ?_))
  rw[if_pos rfl]
 | false =>
  rw[cnd_f,bnd_mk]
  refine(key b x hb.1 hb.2 hx.1 hx.2 (by unfold Abs;split<;>split<;>omega)).trans (congrArg some (decide_eq_decide.2 ?_))
  rw[if_neg Bool.false_ne_true]
theorem r_is(x b:Int) (r:RuleD) (hx:In64 x) (hb:In64 b) (hd:In64 r.2.1):q29_Is (x,b,r,())=some (decide (IsB x b r)):=by
 have hg:=gap_range b r hb hd
 unfold q29_Is
 dsimp only
 rw[r_gap b r hb hd]
 unfold IsB
 generalize (GapV b r).1=g at *
 generalize (GapV b r).2.1=e at *
 unfold In64 at hx hb
 obtain⟨l,e1,a1,b1,c1⟩:=r_apart x b hx.1 hx.2 hb.1 hb.2
 obtain⟨m,e2,a2,b2,c2⟩:=size g (by omega) (by omega)
 have hc:=cmp l m a1 a2 (by omega) (by omega)
 rw[b1,b2,show Abs g=g by unfold Abs;rw[if_neg (by omega)]] at hc
 have hK:(bnd (some (g,decide (e=0),())) fun r4:Int×Bool×Unit=>bnd (cnd r4.2.1 (bnd (q07_Apart (x,b,())) fun r5=>bnd (q02_Size (r4.1,())) fun r6=>bnd (q02_Cmp (r5,r6,())) fun r7=>some (decide (r7>0))) (some false)) fun j8=>some j8)=some (decide (e=0/\g<Abs (x-b))):=by
  rw[bnd_mk]
  dsimp only
  by_cases he:e=0
  ·rw[dT he,cnd_t,e1,bnd_mk,e2,bnd_mk,hc,bnd_mk,bnd_mk]
   refine congrArg some (decide_eq_decide.2 ?_)
   split
   ·omega
   ·split<;>omega
  ·rw[dF he,cnd_f,bnd_mk,dF (fun k:e=0/\g<Abs (x-b)=>he k.1)]
 rw[hK]
 cases r.1 with
 | true =>
  rw[if_pos rfl]
  by_cases h:x<=b
  ·rw[dT h];exact congrArg some (dec_no fun k=>by have:=k.1;omega)
  ·rw[dF h]
   exact congrArg some (decide_eq_decide.2 ⟨fun k=>⟨by omega,k⟩,fun k=>k.2⟩)
 | false =>
  rw[if_neg Bool.false_ne_true]
  by_cases h:x>=b
  ·rw[dT h];exact congrArg some (dec_no fun k=>by have:=k.1;omega)
  ·rw[dF h]
   exact congrArg some (decide_eq_decide.2 ⟨fun k=>⟨by omega,k⟩,fun k=>k.2⟩)
theorem p_etake(w:WatchD) (x:Int) (r:RuleD) (hx:In64 x) (hw:In64 w.2.1) (hd:In64 r.2.1):early_Take (w,x,r,())=some (TakeW w x r):=by
 unfold early_Take TakeW
 dsimp only
 rw[p_is x w.2.1 r hx hw hd]
 have hb:wr .i64 ((minL (maxL w.2.2.1 [0]) [1099511627775])+1)=BadS w.2.2.1:=by
  rw[max0]
  simp only[minL]
  unfold BadS
  by_cases h1:w.2.2.1<0
  ·rw[if_pos h1,if_pos h1];rfl
  ·rw[if_neg h1,if_neg h1]
   by_cases h2:w.2.2.1<1099511627776
   ·rw[if_pos h2,if_neg (by omega),wr_id (by omega) (by omega)]
   ·rw[if_neg h2,if_pos (by omega)];rfl
 rw[hb]
 cases w.1 with
 | false=>rw[if_pos (.inl rfl)];rfl
 | true =>
  by_cases h:IsB x w.2.1 r
  ·rw[dT h,if_pos (.inr h)];rfl
  ·rw[dF h,if_neg (fun k=>k.elim (fun k=>Bool.noConfusion k) h)];rfl
theorem r_etake(w:WatchD) (x:Int) (r:RuleD) (hx:In64 x) (hw:In64 w.2.1) (hd:In64 r.2.1):q30_Take (w,x,r,())=some (TakeW w x r):=by
 unfold q30_Take TakeW
 dsimp only
 rw[r_is x w.2.1 r hx hw hd]
 obtain⟨h,b,bad,_⟩:=w
 dsimp only
 have hb:(bnd (cnd (decide (bad<0)) (some ((h,b,(0:Int),()),())) (some ((h,b,bad,()),()))) fun(j3:(Bool×(Int×(Int×Unit)))×Unit)=>bnd (cnd (decide (j3.1.2.2.1<1099511627776)) (some ((j3.1.1,j3.1.2.1,wr .i64 (j3.1.2.2.1+1),j3.1.2.2.2),())) (some ((j3.1.1,j3.1.2.1,(1099511627776:Int),j3.1.2.2.2),()))) fun(j4:(Bool×(Int×(Int×Unit)))×Unit)=>some j4.1)=some (h,b,BadS bad,()):=by
  unfold BadS
  by_cases h1:bad<0
  ·rw[dT h1,if_pos h1];rfl
  ·rw[dF h1,if_neg h1,cnd_f,bnd_mk]
   dsimp only
   by_cases h2:bad<1099511627776
   ·rw[dT h2,if_pos h2,cnd_t,wr_id (by omega) (by omega)];rfl
   ·rw[dF h2,if_neg h2];rfl
 rw[hb]
 cases h with
 | false=>rw[if_pos (.inl rfl)];rfl
 | true =>
  by_cases h:IsB x b r
  ·rw[dT h,if_pos (.inr h)];rfl
  ·rw[dF h,if_neg (fun k=>k.elim (fun k=>Bool.noConfusion k) h)];rfl
theorem p_eout(w:WatchD) (n:Int):early_Out (w,n,())=some (decide (1<=n/\n<=w.2.2.1)):=by
 unfold early_Out
 dsimp only
 by_cases h:n>=1
 ·rw[dT h]
  exact congrArg some (decide_eq_decide.2 ⟨fun k=>⟨h,k⟩,fun k=>k.2⟩)
 ·rw[dF h,dF (fun k:1<=n/\n<=w.2.2.1=>h k.1)];rfl
theorem p_ptake(c:CutSD) (x:Int) (cu:CutD) (hx:In64 x) (hw:In64 c.1.2.1) (hd:In64 cu.2.2.2.2.2.2.2.1) (hr:In64 c.2.1) (hs:In64 c.2.2.1) (hf:In64 cu.2.2.2.1):plat_Take (c,x,cu,())=some ((TakeC c x cu).1,(TakeC c x cu).2,()):=by
 unfold plat_Take TakeC
 dsimp only
 rw[p_etake c.1 x _ hx hw hd,bnd_mk]
 generalize TakeW c.1 x (cu.2.2.1,cu.2.2.2.2.2.2.2.1,false,())=w
 unfold In64 at hr hs hf
 by_cases h1:0<c.2.1
 ·rw[if_pos h1,dT (show c.2.1>0 from h1),cnd_t,wr_id (by omega) (by omega)]
 rw[if_neg h1,dF (show ¬ c.2.1>0 from h1),cnd_f,p_eout,bnd_mk]
 by_cases h2:cu.2.2.2.2.1<1\/w.2.2.1<cu.2.2.2.2.1
 ·rw[if_pos h2,dF (by omega)];rfl
 ·rw[if_neg h2,dT (by omega),Bool.not_true,cnd_f,p_fixmul _ _ hs.1 hs.2 hf.1 hf.2];rfl
theorem r_ptake(c:CutSD) (x:Int) (cu:CutD) (hx:In64 x) (hw:In64 c.1.2.1) (hd:In64 cu.2.2.2.2.2.2.2.1) (hr:In64 c.2.1) (hs:In64 c.2.2.1) (hf:In64 cu.2.2.2.1):q31_Take (c,x,cu,())=some ((TakeC c x cu).1,(TakeC c x cu).2,()):=by
 unfold q31_Take TakeC
 dsimp only
 rw[r_etake c.1 x _ hx hw hd,bnd_mk]
 generalize TakeW c.1 x (cu.2.2.1,cu.2.2.2.2.2.2.2.1,false,())=w
 unfold In64 at hr hs hf
 by_cases h1:0<c.2.1
 ·rw[if_pos h1,dT (show c.2.1>0 from h1),cnd_t,wr_id (by omega) (by omega)]
 rw[if_neg h1,dF (show ¬ c.2.1>0 from h1),cnd_f]
 by_cases h3:cu.2.2.2.2.1<1
 ·rw[if_pos (.inl h3),dT h3];rfl
 rw[dF h3]
 by_cases h2:w.2.2.1<cu.2.2.2.2.1
 ·rw[if_pos (.inr h2),dT h2];rfl
 ·rw[if_neg (by omega),dF h2,rmul _ _ hs.1 hs.2 hf.1 hf.2];rfl
def RateS(sc v fl:Int):Int:=if tm v sc<(if fl<v then fl else v) then(if fl<v then fl else v) else tm v sc
theorem p_prate(c:CutSD) (v fl:Int) (s0:0<=c.2.2.1) (s1:c.2.2.1<=4294967296) (v0:0<=v) (v1:v<=4503599627370496):plat_Rate (c,v,fl,())=some (RateS c.2.2.1 v fl):=by
 unfold plat_Rate RateS
 dsimp only
 rw[dF (by omega:¬ c.2.2.1<0),dF (by omega:¬ c.2.2.1>4294967296),p_fixmul v c.2.2.1 (by omega) (by omega) (by omega) (by omega),mul_nn v c.2.2.1 v0 v1 s0 s1]
 simp only[Bool.not_false,cnd_t,bnd_mk,cnd_f,maxL,minL]
 rfl
theorem r_prate(c:CutSD) (v fl:Int) (s0:0<=c.2.2.1) (s1:c.2.2.1<=4294967296) (v0:0<=v) (v1:v<=4503599627370496):q31_Rate (c,v,fl,())=some (RateS c.2.2.1 v fl):=by
 unfold q31_Rate RateS
 dsimp only
 rw[dF (by omega:¬ c.2.2.1<0),dF (by omega:¬ c.2.2.1>4294967296),r_part v c.2.2.1 v0 v1 s0 s1]
 simp only[Bool.not_false,cnd_t,bnd_mk,cnd_f]
 by_cases h:fl<v
 ·rw[dT h,if_pos h,cnd_t,bnd_mk]
  by_cases k:tm v c.2.2.1<fl
  ·rw[dT k,if_pos k,cnd_t]
  ·rw[dF k,if_neg k,cnd_f]
 ·rw[dF h,if_neg h,cnd_f,bnd_mk]
  by_cases k:tm v c.2.2.1<v
  ·rw[dT k,if_pos k,cnd_t]
  ·rw[dF k,if_neg k,cnd_f]
theorem range_nth(w:List Int):(List.range w.length).map (fun i=>nth 0 w i)=w:=nth_ext 0 (by simp) fun i hi=>by
 simp only[List.length_map,List.length_range] at hi
 rw[nth_map 0 0 _ (by simpa using hi)]
 congr 1
 simp [nth,List.getD,hi]
theorem range_succ_map{β:Type} (F:Nat->β) (k:Nat):(List.range (k+1)).map F=(List.range k).map F++[F k]:=by
 rw[List.range_succ,List.map_append];rfl
def Rng(l:List Int):Prop:=∀ x∈l,In64 x
theorem rng_nth{l:List Int} (h:Rng l) {i:Nat} (hi:i<l.length):In64 (nth 0 l i):=h _ (nth_mem hi)
theorem p_ema(a w:List Int) (d:Int) (d0:0<=d) (d1:d<=4294967296) (hl:w.length<=1000) (ha:a.length=0\/a.length=w.length) (ra:Rng a) (rw':Rng w):ema_Take (a,w,d,())=some (EmaS a w d,0,()):=by
 unfold ema_Take EmaS
 dsimp only
 rw[dF (by omega:¬ d<0),dF (by omega:¬ d>4294967296)]
 simp only[Bool.not_false,cnd_t,bnd_mk,cnd_f]
 by_cases h0:a.length=0
 ·rw[if_pos h0,dT (by omega:(a.length:Int)=0),cnd_t,show slices_Clone_int_int (w,())=some w from clone_ok w _ (by omega)]
  rfl
 have ha:a.length=w.length:=by omega
 rw[if_neg h0,dF (by omega:¬ (a.length:Int)=0),cnd_f,dT (by omega:(a.length:Int)=(w.length:Int)),Bool.not_true,cnd_f]
 have hm:mkN 17592186044416 (w.length:Int) (0:Int)=some (List.replicate w.length 0):=by
  unfold mkN
  rw[if_pos (by omega),Int.toNat_natCast]
 rw[hm,bnd_mk]
 rw[grow_loop _ (fun k=>((k:Int),(List.range k).map (fun i=>LerpS (nth 0 w i) (nth 0 a i) d)++List.replicate (w.length-k) 0,())) w.length ((List.range w.length).map (fun i=>LerpS (nth 0 w i) (nth 0 a i) d),()) _ ?_ ?_ ?_]
 ·rfl
 ·rw[Nat.sub_zero];rfl
 ·intro k hk
  dsimp only
  have h1:=rng_nth rw' hk
  have h2:=rng_nth ra (show k<a.length by omega)
  unfold In64 at h1 h2
  rw[lt_true hk,cnd_t,ati_d 0 hk,bnd_mk,ati_d 0 (by omega:k<a.length),bnd_mk,p_lerp _ _ _ h1.1 h1.2 h2.1 h2.2 d0 d1,bnd_mk,inR_ok (by rw[List.length_replicate];exact hk),bnd_mk,ati_d 0 (by simp;omega),bnd_mk,wr_succ hk (by omega),Int.toNat_natCast,range_succ_map]
  show some _=_
  congr 4
  rw[List.append_assoc,List.set_append,if_neg (by simp),List.length_map,List.length_range,Nat.sub_self,show w.length-k=(w.length-(k+1))+1 by omega,List.replicate_succ]
  rfl
 ·dsimp only
  rw[lt_false,cnd_f,Nat.sub_self,List.replicate_zero,List.append_nil]
  rfl
theorem r_ema(a w:List Int) (d:Int) (d0:0<=d) (d1:d<=4294967296) (hl:w.length<=1000) (ha:a.length=0\/a.length=w.length) (ra:Rng a) (rw':Rng w):q33_Take (a,w,d,())=some (EmaS a w d):=by
 unfold q33_Take EmaS
 dsimp only
 by_cases h0:a.length=0
 ·rw[if_pos h0,dT (by omega:(a.length:Int)=0),grow_loop _ (fun k=>((List.range k).map (fun i=>nth 0 w i),(k:Int),())) w.length (w,()) _ ?_ ?_ ?_]
  ·rfl
  ·rfl
  ·intro k hk
   dsimp only
   rw[lt_true hk,cnd_t,cnd_t,ati_d 0 hk,bnd_mk,app_ok (by rw[List.length_map,List.length_range,List.length_singleton];omega),bnd_mk,bnd_mk,wr_succ hk (by omega),range_succ_map]
   rfl
  ·dsimp only
   rw[lt_false,cnd_f,range_nth]
   rfl
 have ha:a.length=w.length:=by omega
 rw[if_neg h0,dF (by omega:¬ (a.length:Int)=0),grow_loop _ (fun k=>((List.range k).map (fun i=>LerpS (nth 0 w i) (nth 0 a i) d),(k:Int),())) w.length ((List.range w.length).map (fun i=>LerpS (nth 0 w i) (nth 0 a i) d),()) _ ?_ ?_ ?_]
 ·rfl
 ·rfl
 ·intro k hk
  dsimp only
  have h1:=rng_nth rw' hk
  have h2:=rng_nth ra (show k<a.length by omega)
  unfold In64 at h1 h2
  rw[lt_true hk,cnd_t,cnd_f,ati_d 0 hk,bnd_mk,ati_d 0 (by omega:k<a.length),bnd_mk,r_lerp _ _ _ h1.1 h1.2 h2.1 h2.2 d0 d1,bnd_mk,app_ok (by rw[List.length_map,List.length_range,List.length_singleton];omega),bnd_mk,bnd_mk,wr_succ hk (by omega),range_succ_map]
  rfl
 ·dsimp only
  rw[lt_false,cnd_f]
  rfl
theorem p_fadd(x y:Int) (hx:In64 x) (hy:In64 y):∃ r,fix_Add (x,y,())=some r/\(In64 (x+y)->r=(x+y,0,()))/\(¬ In64 (x+y)->r.2.1≠0):=by
 unfold fix_Add
 unfold In64 at *
 dsimp only
 have hw:wr .i64 (x+y)=if x+y>9223372036854775807 then x+y-18446744073709551616 else if x+y < -9223372036854775808 then x+y+18446744073709551616 else x+y:=by
  simp only[wr,IntKind.wrap,IntKind.signed,IntKind.bits,Bool.true_and,if_true]
  split<;>split<;>(try split)<;>(simp at *;omega)
 by_cases h:(x<0)↔(y<0)
 ·rw[dT (show decide (x<0)=decide (y<0) from decide_eq_decide.2 h),cnd_t,bnd_mk]
  by_cases k:-9223372036854775808<=x+y/\x+y<=9223372036854775807
  ·rw[wr_id k.1 k.2,dT (show decide (x+y<0)=decide (x<0) from decide_eq_decide.2 (by omega))]
   exact⟨_,rfl,fun _=>rfl,fun n=>(n k).elim⟩
  ·have hb:¬ (decide (wr .i64 (x+y)<0)=decide (x<0)):=fun e=>by
    have e:=decide_eq_decide.1 e
    rw[hw] at e
    split at e
    ·omega
    ·split at e<;>omega
   rw[dF hb]
   exact⟨_,rfl,fun n=>(k n).elim,fun _=>by decide⟩
 ·rw[dF (show ¬ decide (x<0)=decide (y<0) from fun e=>h (decide_eq_decide.1 e)),cnd_f,bnd_mk,cnd_f,wr_id (by omega) (by omega)]
  exact⟨_,rfl,fun _=>rfl,fun n=>by omega⟩
theorem r_fadd(x y:Int) (hx:In64 x) (hy:In64 y):∃ r,q04_Add (x,y,())=some r/\(In64 (x+y)->r=(x+y,0,()))/\(¬ In64 (x+y)->r.2.1≠0):=by
 unfold q04_Add
 unfold In64 at *
 dsimp only
 by_cases h:(x<0)↔(y<0)
 ·rw[dT (show decide (x<0)=decide (y<0) from decide_eq_decide.2 h),cnd_t]
  obtain⟨l1,e1,g1,g2,g3⟩:=size x hx.1 hx.2
  obtain⟨l2,e2,k1,k2,k3⟩:=size y hy.1 hy.2
  obtain⟨l3,e3,m1,m2,m3⟩:=plus l1 l2 g1 k1 (by omega) (by omega)
  rw[e1,bnd_mk,e2,bnd_mk,e3,bnd_mk,rsigned l3 _ m1 (by omega),bnd_mk,m2,g2,k2]
  refine⟨_,rfl,fun n=>?_,fun n=>?_⟩
  ·unfold Sg Abs
   by_cases hx0:x<0
   ·rw[if_pos hx0,if_pos (h.1 hx0),dT hx0,if_neg (by simp;omega),if_pos rfl]
    dsimp only
    rw[show -(-x+-y)=x+y by omega]
   ·rw[if_neg hx0,if_neg (fun k=>hx0 (h.2 k)),dF hx0,if_neg (by simp;omega),if_neg Bool.false_ne_true]
  ·unfold Sg Abs
   have hy0:¬ x<0->¬ y<0:=fun a b=>a (h.2 b)
   by_cases hx0:x<0
   ·rw[if_pos hx0,if_pos (h.1 hx0),dT hx0,if_pos (.inl (by have:=h.1 hx0;omega))]
    decide
   ·have:=hy0 hx0
    rw[if_neg hx0,if_neg (hy0 hx0),dF hx0,if_pos (by simp;omega)]
    decide
 ·rw[dF (show ¬ decide (x<0)=decide (y<0) from fun e=>h (decide_eq_decide.1 e)),cnd_f,wr_id (by omega) (by omega)]
  exact⟨_,rfl,fun _=>rfl,fun n=>by omega⟩
end Go.Proofs.YtmomjjgokeffnaaGreat.F
