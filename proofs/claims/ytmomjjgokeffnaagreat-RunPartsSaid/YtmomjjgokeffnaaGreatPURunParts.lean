/- A curve's value, of all kinds: the program's and the reference's; bounds, words. -/
import Derived.Test.YtmomjjgokeffnaaGreatPTRunParts
set_option linter.unusedVariables false
set_option linter.unusedSimpArgs false
namespace Go.Proofs.YtmomjjgokeffnaaGreat.F
open Go.VX
def CurveS(c:CurveD) (i n:Int):Int :=
 if c.1=2 then LerpS c.2.1 c.2.2.1 (ShareS i n) else if c.1=3 then LerpS c.2.2.1 c.2.1 (PowS (4294967296-ShareS i n) c.2.2.2.1) else
 if c.1=4 then(if tm c.2.1 (PowS c.2.2.2.1 i)>c.2.2.1 then tm c.2.1 (PowS c.2.2.2.1 i) else c.2.2.1) else
 if c.1=5 then LerpS c.2.2.1 c.2.1 (WaveS (ShareS i n)) else c.2.1
theorem lerp_one(a b:Int):LerpS a b 4294967296=b:=by
 unfold LerpS
 rw[rd_exact (by omega),rd_exact (by omega)]
 split<;>omega
theorem p_at5(c:CurveD) (i n:Int) (hc:CurveOk c) (n0:1<=n) (n1:n<=1048576) (i0:0<=i) (i1:i<n) (hk:c.1=5):curve_At (c,i,n,())=some (LerpS c.2.2.1 c.2.1 (WaveS (ShareS i n)),0,()):=by
 have hc':=hc
 unfold CurveOk at hc'
 have ht:=shareS_range i n n0 i0 i1
 rw[p_at c i n hc n0 n1 i0 i1,p_shareS i n n0 n1 i0 i1,bnd_mk,decide_eq_false (by omega:¬ c.1=4),decide_eq_false (by omega:¬ c.1=2),cnd_f,cnd_f]
 dsimp only
 have hw:=waveS_b (ShareS i n) ht.1 ht.2
 have e:curve_weight (c,ShareS i n,())=some (WaveS (ShareS i n)):=by
  unfold curve_weight
  dsimp only
  rw[decide_eq_false (by omega:¬ c.1=3),cnd_f,decide_eq_true hk,cnd_t,p_wave _ ht.1 ht.2]
  rfl
 rw[e,bnd_mk,p_lerp _ _ _ (by omega) (by omega) (by omega) (by omega) hw.1 hw.2]
 rfl
theorem p_at1(c:CurveD) (i n:Int) (hc:CurveOk c) (n0:1<=n) (n1:n<=1048576) (i0:0<=i) (i1:i<n) (hk:c.1=1):curve_At (c,i,n,())=some (c.2.1,0,()):=by
 have hc':=hc
 unfold CurveOk at hc'
 have ht:=shareS_range i n n0 i0 i1
 rw[p_at c i n hc n0 n1 i0 i1,p_shareS i n n0 n1 i0 i1,bnd_mk,decide_eq_false (by omega:¬ c.1=4),decide_eq_false (by omega:¬ c.1=2),cnd_f,cnd_f]
 dsimp only
 have e:curve_weight (c,ShareS i n,())=some 4294967296:=by
  unfold curve_weight
  dsimp only
  rw[decide_eq_false (by omega:¬ c.1=3),cnd_f,decide_eq_false (by omega:¬ c.1=5),cnd_f]
 rw[e,bnd_mk,p_lerp _ _ _ (by omega) (by omega) (by omega) (by omega) (by omega) (by omega),bnd_mk,lerp_one]
theorem p_atS(c:CurveD) (i n:Int) (hc:CurveOk c) (n0:1<=n) (n1:n<=1048576) (i0:0<=i) (i1:i<n):curve_At (c,i,n,())=some (CurveS c i n,0,()):=by
 unfold CurveS
 by_cases h2:c.1=2
 ·rw[if_pos h2];exact p_at2 c i n hc n0 n1 i0 i1 h2
 by_cases h3:c.1=3
 ·rw[if_neg h2,if_pos h3];exact p_at3 c i n hc n0 n1 i0 i1 h3
 by_cases h4:c.1=4
 ·rw[if_neg h2,if_neg h3,if_pos h4];exact p_at4 c i n hc n0 n1 i0 i1 h4
 by_cases h5:c.1=5
 ·rw[if_neg h2,if_neg h3,if_neg h4,if_pos h5];exact p_at5 c i n hc n0 n1 i0 i1 h5
 ·have hc':=hc
  unfold CurveOk at hc'
  rw[if_neg h2,if_neg h3,if_neg h4,if_neg h5];exact p_at1 c i n hc n0 n1 i0 i1 (by omega)
theorem r_powS(x n:Int) (x0:0<=x) (x1:x<=4294967296) (n0:0<=n) (n1:n<=1099511627776):q06_Of (x,n,())=some (PowS x n):=by
 obtain⟨k,rfl⟩:∃ k:Nat,n=k:=⟨n.toNat,by omega⟩
 exact r_pow x k x0 x1 (by omega)
theorem r_atS(c:CurveD) (i n:Int) (hc:CurveOk c) (n0:1<=n) (n1:n<=1048576) (i0:0<=i) (i1:i<n):q09_At (c,i,n,())=some (CurveS c i n):=by
 have hc':=hc
 unfold CurveOk at hc'
 have ht:=shareS_range i n n0 i0 i1
 unfold q09_At CurveS
 dsimp only
 rw[r_share i n n0 n1 i0 i1,bnd_mk]
 by_cases h2:c.1=2
 ·rw[if_pos h2,decide_eq_true h2,cnd_t,r_lerp _ _ _ (by omega) (by omega) (by omega) (by omega) ht.1 ht.2];rfl
 by_cases h3:c.1=3
 ·have hw:=powS_mono c.2.2.2.1 (x:=4294967296-ShareS i n) (by omega) (Int.le_refl _) (by omega)
  rw[if_neg h2,if_pos h3,decide_eq_false h2,cnd_f,decide_eq_true h3,cnd_t,wr_id (by omega) (by omega),r_powS _ _ (by omega) (by omega) (by omega) (by omega),bnd_mk,r_lerp _ _ _ (by omega) (by omega) (by omega) (by omega) hw.1 hw.2.2];rfl
 by_cases h4:c.1=4
 ·have hw:=powS_mono i (x:=c.2.2.2.1) (by omega) (Int.le_refl _) (by omega)
  rw[if_neg h2,if_neg h3,if_pos h4,decide_eq_false h2,cnd_f,decide_eq_false h3,cnd_f,decide_eq_true h4,cnd_t,r_powS _ _ (by omega) (by omega) (by omega) (by omega),bnd_mk,r_part _ _ (by omega) (by omega) hw.1 hw.2.2,bnd_mk]
  generalize tm c.2.1 (PowS c.2.2.2.1 i)=x
  by_cases hx:x<c.2.2.1
  ·rw[decide_eq_true hx,if_neg (by omega)];rfl
  ·rw[decide_eq_false hx]
   by_cases hy:x>c.2.2.1
   ·rw[if_pos hy];rfl
   ·rw[if_neg hy,cnd_f]
    congr 1;omega
 by_cases h5:c.1=5
 ·have hw:=waveS_b (ShareS i n) ht.1 ht.2
  rw[if_neg h2,if_neg h3,if_neg h4,if_pos h5,decide_eq_false h2,cnd_f,decide_eq_false h3,cnd_f,decide_eq_false h4,cnd_f,decide_eq_true h5,cnd_t,r_wave _ ht.1 ht.2,bnd_mk,r_lerp _ _ _ (by omega) (by omega) (by omega) (by omega) hw.1 hw.2];rfl
 ·rw[if_neg h2,if_neg h3,if_neg h4,if_neg h5,decide_eq_false h2,cnd_f,decide_eq_false h3,cnd_f,decide_eq_false h4,cnd_f,decide_eq_false h5,cnd_f]
end Go.Proofs.YtmomjjgokeffnaaGreat.F
