/- Numbers of 128 bits: the program's product; how many bits a word has. -/
import Derived.Test.YtmomjjgokeffnaaGreatP0RunParts
import Derived.Test.YtmomjjgokeffnaaGreatFRunParts
set_option linter.unusedVariables false
set_option linter.unusedSimpArgs false
namespace Go.Proofs.YtmomjjgokeffnaaGreat.F
open Go.VX
theorem p_mul(x y:Int) (h1:0<=x) (h2:x<18446744073709551616) (h3:0<=y) (h4:y<18446744073709551616):pair_Mul (x,y,())=some (x*y / 18446744073709551616,x*y % 18446744073709551616,()):=by
 unfold pair_Mul
 dsimp only
 rw[show(2:Int) ^ 32=4294967296 from rfl]
 simp only[fdiv_pos 4294967296 (by omega)]
 rw[and_low h1 h2,and_low h3 h4]
 have ex:x=x / 4294967296*4294967296+x % 4294967296:=by omega
 have ey:y=y / 4294967296*4294967296+y % 4294967296:=by omega
 have a0:0<=x / 4294967296/\x / 4294967296<=4294967295:=by omega
 have b0:0<=x % 4294967296/\x % 4294967296<=4294967295:=by omega
 have c0:0<=y / 4294967296/\y / 4294967296<=4294967295:=by omega
 have d0:0<=y % 4294967296/\y % 4294967296<=4294967295:=by omega
 generalize x / 4294967296=a at *
 generalize x % 4294967296=b at *
 generalize y / 4294967296=c at *
 generalize y % 4294967296=d at *
 have hxy:x*y=(a*c)*18446744073709551616+(a*d+b*c)*4294967296+b*d:=by
  rw[ex,ey];grind
 have bd:∀ u v:Int,0<=u->u<=4294967295->0<=v->v<=4294967295->0<=u*v/\u*v<=18446744065119617025:=fun u v h1 h2 h3 h4=>by
  have k1:=Int.mul_nonneg h1 h3
  have k2:u*v<=4294967295*v:=Int.mul_le_mul_of_nonneg_right h2 h3
  omega
 have k1:=bd a c a0.1 a0.2 c0.1 c0.2
 have k2:=bd a d a0.1 a0.2 d0.1 d0.2
 have k3:=bd b c b0.1 b0.2 c0.1 c0.2
 have k4:=bd b d b0.1 b0.2 d0.1 d0.2
 rw[hxy]
 clear hxy ex ey bd
 generalize a*c=ac at *
 generalize a*d=ad at *
 generalize b*c=bc at *
 generalize b*d=bd at *
 rw[wru_id (x:=ac) (by omega) (by omega),wru_id (x:=ad) (by omega) (by omega),wru_id (x:=bc) (by omega) (by omega),wru_id (x:=bd) (by omega) (by omega),and_low k2.1 (by omega),and_low k3.1 (by omega),and_low k4.1 (by omega)]
 rw[wru_id (x:=bd / 4294967296+ad % 4294967296) (by omega) (by omega),wru_id (x:=bd / 4294967296+ad % 4294967296+bc % 4294967296) (by omega) (by omega)]
 have km:0<=bd / 4294967296+ad % 4294967296+bc % 4294967296/\bd / 4294967296+ad % 4294967296+bc % 4294967296<12884901888:=by omega
 have e1:wr .u64 ((bd / 4294967296+ad % 4294967296+bc % 4294967296)*4294967296)=(bd / 4294967296+ad % 4294967296+bc % 4294967296) % 4294967296*2 ^ 32:=by
  rw[wru_mod,show(2:Int) ^ 32=4294967296 from rfl];omega
 rw[e1,or_add 32 (by omega) (by omega) (by rw[show(2:Int) ^ 32=4294967296 from rfl];omega) (by omega) (by rw[show(2:Int) ^ 32=4294967296 from rfl];omega),show(2:Int) ^ 32=4294967296 from rfl]
 rw[wru_id (x:=ac+ad / 4294967296) (by omega) (by omega),wru_id (x:=ac+ad / 4294967296+bc / 4294967296) (by omega) (by omega),wru_id (x:=ac+ad / 4294967296+bc / 4294967296+(bd / 4294967296+ad % 4294967296+bc % 4294967296) / 4294967296) (by omega) (by omega)]
 congr 1
 refine Prod.ext ?_ (Prod.ext ?_ rfl)
 ·dsimp only;omega
 ·dsimp only;omega
theorem p_size(x:Int) (h0:-9223372036854775808<=x) (h1:x<=9223372036854775807):fix_Size (x,())=some (Abs x):=by
 unfold fix_Size Abs
 dsimp only
 by_cases h:x<0
 ·rw[decide_eq_true h,cnd_t,if_pos h]
  congr 1
  rw[wru_mod,wru_mod];omega
 ·rw[decide_eq_false h,cnd_f,if_neg h,wru_id (by omega) (by omega)]
end Go.Proofs.YtmomjjgokeffnaaGreat.F
