/- Shares, what lies between, powers: the reference's, as the program's. -/
import Derived.Test.YtmomjjgokeffnaaGreatPQRunParts
import Derived.Test.YtmomjjgokeffnaaGreatPERunParts
set_option linter.unusedVariables false
set_option linter.unusedSimpArgs false
namespace Go.Proofs.YtmomjjgokeffnaaGreat.F
open Go.VX
theorem r_share(i n:Int) (n0:1<=n) (n1:n<=1048576) (i0:0<=i) (i1:i<n):q07_Share (i,n,())=some (ShareS i n):=by
 unfold q07_Share ShareS
 dsimp only
 by_cases h:n=1
 ·rw[decide_eq_true h,if_pos h];rfl
 rw[decide_eq_false h,if_neg h,cnd_f,wr_id (x:=n-1) (by omega) (by omega)]
 obtain⟨l1,e1,a1,b1,c1⟩:=size i (by omega) (by omega)
 obtain⟨l2,e2,a2,b2,c2⟩:=twos 32 (by omega)
 have e2':q02_Twos (32,())=some l2:=e2
 rw[show(2:Int) ^ 32=4294967296 from rfl] at b2
 obtain⟨l3,e3,a3,b3,c3⟩:=times l1 l2 a1 a2 (by omega) (by omega)
 obtain⟨l4,e4,a4,b4,c4⟩:=size (n-1) (by omega) (by omega)
 have hi:Abs i=i:=by unfold Abs;rw[if_neg (by omega)]
 have hn:Abs (n-1)=n-1:=by unfold Abs;rw[if_neg (by omega)]
 obtain⟨l5,e5,a5,b5,c5⟩:=rounded l3 l4 a3 a4 (by omega) (by omega) (by omega)
 rw[e1,bnd_mk,e2',bnd_mk,e3,bnd_mk,e4,bnd_mk,e5,bnd_mk,mod l5 a5,bnd_mk,t_mod l5 a5,b5,b3,b1,b2,b4,hi,hn]
 have hb:Rd (i*4294967296) (n-1)<=4294967296:=rd_bound (by omega) (by omega)
 have hb0:=rd_nonneg (n:=i*4294967296) (d:=n-1) (by omega) (by omega)
 generalize Rd (i*4294967296) (n-1)=q at *
 show some (wr .i64 (q % 18446744073709551616))=_
 rw[wr_id (by omega) (by omega)]
 congr 1;omega
theorem r_apart(a b:Int) (a0:-9223372036854775808<=a) (a1:a<=9223372036854775807) (b0:-9223372036854775808<=b) (b1:b<=9223372036854775807):∃ l,q07_Apart (a,b,())=some l/\Dig l/\V l=Abs (a-b)/\l.length<=5:=by
 unfold q07_Apart
 dsimp only
 by_cases h:(a<0)↔(b<0)
 ·rw[decide_eq_true (show decide (a<0)=decide (b<0) from decide_eq_decide.2 h),cnd_t,wr_id (by omega) (by omega)]
  obtain⟨l,e,h1,h2,h3⟩:=size (a-b) (by omega) (by omega)
  exact⟨l,by rw[e];rfl,h1,h2,by omega⟩
 ·rw[decide_eq_false (show ¬ decide (a<0)=decide (b<0) from fun x=>h (decide_eq_decide.1 x)),cnd_f]
  obtain⟨l1,e1,g1,g2,g3⟩:=size a a0 a1
  obtain⟨l2,e2,k1,k2,k3⟩:=size b b0 b1
  obtain⟨l3,e3,m1,m2,m3⟩:=plus l1 l2 g1 k1 (by omega) (by omega)
  refine⟨l3,by rw[e1,bnd_mk,e2,bnd_mk,e3];rfl,m1,?_,by omega⟩
  rw[m2,g2,k2]
  unfold Abs
  split<;>split<;>split<;>omega
theorem r_lerp(a b t:Int) (a0:-9223372036854775808<=a) (a1:a<=9223372036854775807) (b0:-9223372036854775808<=b) (b1:b<=9223372036854775807) (t0:0<=t) (t1:t<=4294967296):q07_At (a,b,t,())=some (LerpS a b t):=by
 unfold q07_At LerpS
 dsimp only
 obtain⟨l1,e1,g1,g2,g3⟩:=r_apart a b a0 a1 b0 b1
 obtain⟨l2,e2,k1,k2,k3⟩:=size t (by omega) (by omega)
 obtain⟨l3,e3,m1,m2,m3⟩:=times l1 l2 g1 k1 (by omega) (by omega)
 obtain⟨l4,e4,p1,p2,p3⟩:=twos 32 (by omega)
 have e4':q02_Twos (32,())=some l4:=e4
 rw[show(2:Int) ^ 32=4294967296 from rfl] at p2
 obtain⟨l5,e5,q1,q2,q3⟩:=rounded l3 l4 m1 p1 (by omega) (by omega) (by omega)
 have ht:Abs t=t:=by unfold Abs;rw[if_neg (by omega)]
 rw[e1,bnd_mk,e2,bnd_mk,e3,bnd_mk,e4',bnd_mk,e5,bnd_mk,mod l5 q1,bnd_mk,t_mod l5 q1,q2,m2,g2,k2,p2,ht]
 have hd:0<=Abs (a-b):=by unfold Abs;split<;>omega
 have hb:Rd (Abs (a-b)*t) 4294967296<=Abs (a-b):=rd_bound (by omega) (Int.mul_le_mul_of_nonneg_left t1 hd)
 have hb0:=rd_nonneg (n:=Abs (a-b)*t) (d:=4294967296) (by omega) (Int.mul_nonneg hd t0)
 by_cases h:a<=b
 ·have e:Abs (a-b)=b-a:=by unfold Abs;split<;>omega
  rw[e] at hb hb0 ⊢
  generalize Rd ((b-a)*t) 4294967296=x at *
  rw[if_pos h,decide_eq_true h]
  show some (wr .i64 (wr .u64 (wr .u64 a+x % 18446744073709551616)))=_
  congr 1
  rw[wru_mod,wru_mod]
  simp only[wr,IntKind.wrap,IntKind.signed,IntKind.bits,Bool.true_and,if_true]
  split<;>(simp at *;omega)
 ·have e:Abs (a-b)=a-b:=by unfold Abs;split<;>omega
  rw[e] at hb hb0 ⊢
  generalize Rd ((a-b)*t) 4294967296=x at *
  rw[if_neg h,decide_eq_false h]
  show some (wr .i64 (wr .u64 (wr .u64 a-x % 18446744073709551616)))=_
  congr 1
  rw[wru_mod,wru_mod]
  simp only[wr,IntKind.wrap,IntKind.signed,IntKind.bits,Bool.true_and,if_true]
  split<;>(simp at *;omega)
end Go.Proofs.YtmomjjgokeffnaaGreat.F
