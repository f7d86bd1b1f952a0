/- The program's rounded quotient and product, as numbers: the same as the reference's. -/
import Derived.Test.YtmomjjgokeffnaaGreatPHRunParts
set_option linter.unusedVariables false
set_option linter.unusedSimpArgs false
namespace Go.Proofs.YtmomjjgokeffnaaGreat.F
open Go.VX
theorem p_up(q t d:Int) (hq:0<=q) (h0:0<=t) (h1:t<d) (h2:d<18446744073709551616):half_up (q,t,d,())=some (decide (2*t>d\/(2*t=d/\q % 2=1))):=by
 unfold half_up
 dsimp only
 rw[wru_id (x:=d-t) (by omega) (by omega),Int.tmod_eq_emod_of_nonneg hq]
 by_cases k1:2*t>d
 ·rw[decide_eq_true (by omega:t>d-t),decide_eq_true (show 2*t>d\/(2*t=d/\q % 2=1) from .inl k1)];rfl
 ·rw[decide_eq_false (by omega:¬ t>d-t)]
  by_cases k2:2*t=d
  ·rw[decide_eq_true (by omega:t=d-t)]
   by_cases k3:q % 2=1
   ·rw[decide_eq_true k3,decide_eq_true (show 2*t>d\/(2*t=d/\q % 2=1) from .inr ⟨k2,k3⟩)];rfl
   ·rw[decide_eq_false k3,decide_eq_false (show ¬ (2*t>d\/(2*t=d/\q % 2=1)) by omega)];rfl
  ·rw[decide_eq_false (by omega:¬ t=d-t),decide_eq_false (show ¬ (2*t>d\/(2*t=d/\q % 2=1)) by omega)];rfl
theorem p_near(hi lo d:Int) (h0:0<=hi) (h1:hi<18446744073709551616) (l0:0<=lo) (l1:lo<18446744073709551616) (d0:0<=d) (d1:d<18446744073709551616):half_Near ((hi,lo,()),d,())=some (NearS (hi*18446744073709551616+lo) hi d):=by
 unfold half_Near half_Over NearS
 dsimp only
 by_cases hd:d=0
 ·rw[decide_eq_true hd,if_pos hd];rfl
 rw[decide_eq_false hd,if_neg hd,cnd_f]
 by_cases hh:d<=hi
 ·rw[decide_eq_true (show hi>=d from hh),if_pos hh];rfl
 rw[decide_eq_false (show ¬ hi>=d from hh),if_neg hh,cnd_f,div64 hi lo d h0 (by omega) d1 l0 l1]
 have hN:0<=hi*18446744073709551616+lo:=by omega
 have hq:0<=(hi*18446744073709551616+lo) / d:=Int.ediv_nonneg hN d0
 have hq1:(hi*18446744073709551616+lo) / d<18446744073709551616:=Int.ediv_lt_of_lt_mul (by omega) (by omega)
 have hm:=Int.emod_nonneg (hi*18446744073709551616+lo) hd
 have hm1:=Int.emod_lt_of_pos (hi*18446744073709551616+lo) (by omega:0<d)
 simp only[bnd_mk]
 unfold Rd
 generalize (hi*18446744073709551616+lo) / d=q at *
 generalize (hi*18446744073709551616+lo) % d=t at *
 rw[p_up q t d hq hm hm1 d1]
 by_cases k:2*t>d\/(2*t=d/\q % 2=1)
 ·rw[decide_eq_true k,if_pos k]
  by_cases k2:q+1=18446744073709551616
  ·rw[if_pos k2,wru_mod,decide_eq_true (by omega:(q+1) % 18446744073709551616=0)];rfl
  ·rw[if_neg k2,wru_id (by omega) (by omega),decide_eq_false (by omega:¬ q+1=0)];rfl
 ·rw[decide_eq_false k,if_neg k,if_neg (by omega)];rfl
theorem p_shift32(hi lo:Int) (h0:0<=hi) (h1:hi<18446744073709551616) (l0:0<=lo) (l1:lo<18446744073709551616):half_Shift ((hi,lo,()),32,())=some (NearS (hi*18446744073709551616+lo) hi 4294967296):=by
 unfold half_Shift
 have e:pair_Shl ((0,1,()),minL (maxL 32 [0]) [63],())=some ((0,4294967296,()),true,()):=by rfl
 dsimp only
 rw[e,bnd_mk]
 dsimp only
 rw[p_near hi lo _ h0 h1 l0 l1 (by omega) (by omega)]
 rfl
theorem sg_cases(u:Int) (neg:Bool) (h0:0<=u) (h1:u<18446744073709551616):fix_Signed (u,neg,())=some (Sg u neg):=by
 unfold fix_Signed Sg
 dsimp only
 cases neg with
 | true =>
  by_cases k:u<=9223372036854775808
  ·rw[decide_eq_true k,if_neg (by simp;omega)]
   have e:wr .i64 (wr .u64 (0-u))=-u:=by
    rw[wru_mod]
    by_cases hz:u=0
    ·rw[hz];rfl
    ·rw[show(0-u) % 18446744073709551616=18446744073709551616-u by omega]
     simp only[wr,IntKind.wrap,IntKind.signed,IntKind.bits,Bool.true_and,if_true]
     split<;>(simp at *;omega)
   show some (wr .i64 (wr .u64 (0-u)),0,())=_
   rw[e];rfl
  ·rw[decide_eq_false k,if_pos (by omega)];rfl
 | false =>
  by_cases k:u<9223372036854775808
  ·rw[decide_eq_true k,if_neg (by omega)]
   show some (wr .i64 u,0,())=_
   rw[wr_id (by omega) (by omega)];rfl
  ·rw[decide_eq_false k,if_pos (by simp;omega)];rfl
theorem p_fixmul(x y:Int) (h1:-9223372036854775808<=x) (h2:x<=9223372036854775807) (h3:-9223372036854775808<=y) (h4:y<=9223372036854775807):fix_Mul (x,y,())=some (MulS x y):=by
 unfold fix_Mul MulS
 dsimp only
 have ax:=abs_b x h1 h2
 have ay:=abs_b y h3 h4
 rw[p_size x h1 h2,bnd_mk,p_size y h3 h4,bnd_mk,p_mul _ _ ax.1 (by omega) ay.1 (by omega),bnd_mk]
 have hn:0<=Abs x*Abs y:=Int.mul_nonneg ax.1 ay.1
 have hn2:Abs x*Abs y<=85070591730234615865843651857942052864:=by
  have h1:Abs x*Abs y<=9223372036854775808*Abs y:=Int.mul_le_mul_of_nonneg_right ax.2 ay.1
  omega
 generalize Abs x*Abs y=n at *
 rw[p_shift32 _ _ (by omega) (by omega) (by omega) (by omega),bnd_mk,show n / 18446744073709551616*18446744073709551616+n % 18446744073709551616=n by omega]
 generalize (!decide (decide (x<0)=decide (y<0)))=neg
 unfold NearS
 rw[if_neg (by omega)]
 have hr:=rd_le n 4294967296 (by omega) hn
 by_cases k:4294967296<=n / 18446744073709551616
 ·rw[if_pos k]
  have:Rd n 4294967296>=18446744073709551616:=by
   unfold Rd;split<;>omega
  have e:Sg (Rd n 4294967296) neg=(0,4,()):=by unfold Sg;rw[if_pos (by omega)]
  rw[e];rfl
 ·rw[if_neg k]
  by_cases k2:Rd n 4294967296=18446744073709551616
  ·rw[if_pos k2,k2]
   have e:Sg 18446744073709551616 neg=(0,4,()):=by unfold Sg;rw[if_pos (by omega)]
   rw[e];rfl
  ·rw[if_neg k2]
   have:Rd n 4294967296<=18446744073709551616:=by omega
   dsimp only
   rw[sg_cases _ neg hr.1 (by omega)]
   rfl
end Go.Proofs.YtmomjjgokeffnaaGreat.F
