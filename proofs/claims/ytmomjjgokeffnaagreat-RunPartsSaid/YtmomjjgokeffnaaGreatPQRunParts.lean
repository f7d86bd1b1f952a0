/- A curve's value, as numbers: lines, polynomials, and what fades. -/
import Derived.Test.YtmomjjgokeffnaaGreatPNRunParts
import Derived.Test.YtmomjjgokeffnaaGreatPORunParts
set_option linter.unusedVariables false
set_option linter.unusedSimpArgs false
namespace Go.Proofs.YtmomjjgokeffnaaGreat.F
open Go.VX
theorem p_at(c:CurveD) (i n:Int) (hc:CurveOk c) (n0:1<=n) (n1:n<=1048576) (i0:0<=i) (i1:i<n):curve_At (c,i,n,())=(bnd (lerp_Share (i,n,())) fun r6=>cnd (decide (c.1=4)) (bnd (curve_fading (c,i,())) fun r7=>some (r7,0,())) (cnd (decide (c.1=2)) (bnd (lerp_At (c.2.1,c.2.2.1,r6.1,())) fun r8=>some (r8.1,r8.2.1,())) (bnd (curve_weight (c,r6.1,())) fun r9=>bnd (lerp_At (c.2.2.1,c.2.1,r9,())) fun r10=>some (r10.1,r10.2.1,())))):=by
 unfold curve_At curve_within
 dsimp only
 rw[p_curve,if_pos hc,decide_eq_true (by omega:n>=1),decide_eq_true (by omega:n<=1048576),wr_id (x:=n-1) (by omega) (by omega),decide_eq_true (by omega:i>=0),decide_eq_true (by omega:i<=n-1)]
 rfl
def ShareS(i n:Int):Int:=if n=1 then 0 else Rd (i*4294967296) (n-1)
theorem p_shareS(i n:Int) (n0:1<=n) (n1:n<=1048576) (i0:0<=i) (i1:i<n):lerp_Share (i,n,())=some (ShareS i n,0,()):=by
 unfold ShareS
 by_cases h:n=1
 ·have:i=0:=by omega
  subst this
  subst h
  rfl
 ·rw[if_neg h];exact p_share i n i0 i1 (by omega) (by omega)
theorem shareS_range(i n:Int) (n0:1<=n) (i0:0<=i) (i1:i<n):0<=ShareS i n/\ShareS i n<=4294967296:=by
 unfold ShareS
 by_cases h:n=1
 ·rw[if_pos h];omega
 ·rw[if_neg h]
  exact⟨rd_nonneg (by omega) (by omega),rd_bound (by omega) (by omega)⟩
theorem p_at2(c:CurveD) (i n:Int) (hc:CurveOk c) (n0:1<=n) (n1:n<=1048576) (i0:0<=i) (i1:i<n) (hk:c.1=2):curve_At (c,i,n,())=some (LerpS c.2.1 c.2.2.1 (ShareS i n),0,()):=by
 have hc':=hc
 unfold CurveOk at hc'
 have ht:=shareS_range i n n0 i0 i1
 rw[p_at c i n hc n0 n1 i0 i1,p_shareS i n n0 n1 i0 i1,bnd_mk,decide_eq_false (by omega:¬ c.1=4),decide_eq_true hk,cnd_f,cnd_t]
 dsimp only
 rw[p_lerp _ _ _ (by omega) (by omega) (by omega) (by omega) ht.1 ht.2]
 rfl
def PowS(x n:Int):Int:=powF 64 n.toNat x 4294967296
theorem p_powS(x n:Int) (x0:0<=x) (x1:x<=4294967296) (n0:0<=n) (n1:n<=1099511627776):pow_Of (x,n,())=some (PowS x n,0,()):=by
 obtain⟨k,rfl⟩:∃ k:Nat,n=k:=⟨n.toNat,by omega⟩
 exact p_pow x k x0 x1 (by omega)
theorem powS_mono(n:Int) {x x':Int} (x0:0<=x) (h:x<=x') (x1:x'<=4294967296):0<=PowS x n/\PowS x n<=PowS x' n/\PowS x' n<=4294967296:=powF_mono 64 n.toNat x0 h x1 (by omega) (by omega) (by omega)
theorem p_at3(c:CurveD) (i n:Int) (hc:CurveOk c) (n0:1<=n) (n1:n<=1048576) (i0:0<=i) (i1:i<n) (hk:c.1=3):curve_At (c,i,n,())=some (LerpS c.2.2.1 c.2.1 (PowS (4294967296-ShareS i n) c.2.2.2.1),0,()):=by
 have hc':=hc
 unfold CurveOk at hc'
 have ht:=shareS_range i n n0 i0 i1
 rw[p_at c i n hc n0 n1 i0 i1,p_shareS i n n0 n1 i0 i1,bnd_mk,decide_eq_false (by omega:¬ c.1=4),decide_eq_false (by omega:¬ c.1=2),cnd_f,cnd_f]
 dsimp only
 have hw:=powS_mono c.2.2.2.1 (x:=4294967296-ShareS i n) (by omega) (Int.le_refl _) (by omega)
 have e:curve_weight (c,ShareS i n,())=some (PowS (4294967296-ShareS i n) c.2.2.2.1):=by
  unfold curve_weight
  dsimp only
  rw[decide_eq_true hk,cnd_t,wr_id (by omega) (by omega),p_powS _ _ (by omega) (by omega) (by omega) (by omega)]
  rfl
 rw[e,bnd_mk,p_lerp _ _ _ (by omega) (by omega) (by omega) (by omega) hw.1 hw.2.2]
 rfl
theorem p_at4(c:CurveD) (i n:Int) (hc:CurveOk c) (n0:1<=n) (n1:n<=1048576) (i0:0<=i) (i1:i<n) (hk:c.1=4):curve_At (c,i,n,())=some (if tm c.2.1 (PowS c.2.2.2.1 i)>c.2.2.1 then tm c.2.1 (PowS c.2.2.2.1 i) else c.2.2.1,0,()):=by
 have hc':=hc
 unfold CurveOk at hc'
 rw[p_at c i n hc n0 n1 i0 i1,p_shareS i n n0 n1 i0 i1,bnd_mk,decide_eq_true hk,cnd_t]
 have hw:=powS_mono i (x:=c.2.2.2.1) (by omega) (Int.le_refl _) (by omega)
 unfold curve_fading
 dsimp only
 rw[p_powS _ _ (by omega) (by omega) (by omega) (by omega),bnd_mk,p_fixmul _ _ (by omega) (by omega) (by omega) (by omega),mul_nn _ _ (by omega) (by omega) hw.1 hw.2.2]
 rfl
end Go.Proofs.YtmomjjgokeffnaaGreat.F
