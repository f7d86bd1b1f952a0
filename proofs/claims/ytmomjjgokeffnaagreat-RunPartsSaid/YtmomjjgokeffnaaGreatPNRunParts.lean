/- Shares, what lies between two numbers, and powers of parts: the program's, as numbers. -/
import Derived.Test.YtmomjjgokeffnaaGreatPIRunParts
set_option linter.unusedVariables false
set_option linter.unusedSimpArgs false
namespace Go.Proofs.YtmomjjgokeffnaaGreat.F
open Go.VX
theorem rd_mono{n m d:Int} (hd:0<d) (h:n<=m):Rd n d<=Rd m d:=by
 have a1:=Int.emod_add_mul_ediv n d
 have a2:=Int.emod_nonneg n (by omega:d≠0)
 have a3:=Int.emod_lt_of_pos n hd
 have b1:=Int.emod_add_mul_ediv m d
 have b2:=Int.emod_nonneg m (by omega:d≠0)
 have b3:=Int.emod_lt_of_pos m hd
 have hq:n / d<=m / d:=Int.ediv_le_ediv hd h
 unfold Rd
 by_cases e:n / d=m / d
 ·rw[e] at a1 ⊢
  have:n % d<=m % d:=by omega
  split<;>split<;>omega
 ·split<;>split<;>omega
theorem rd_exact{x d:Int} (hd:0<d):Rd (x*d) d=x:=by
 unfold Rd
 rw[Int.mul_emod_left,Int.mul_ediv_cancel _ (by omega),if_neg (by omega)]
theorem rd_bound{n d x:Int} (hd:0<d) (h:n<=x*d):Rd n d<=x:=by
 have:=rd_mono hd h
 rwa [rd_exact hd] at this
theorem rd_nonneg{n d:Int} (hd:0<d) (h:0<=n):0<=Rd n d:=(rd_le n d hd h).1
theorem p_shl32(u:Int) (h0:0<=u) (h1:u<18446744073709551616):∃ b,pair_Shl ((0,u,()),32,())=some ((u / 4294967296,u % 4294967296*4294967296,()),b,()):=by
 unfold pair_Shl pair_held
 dsimp only
 rw[show minL (maxL 32 [0]) [128]=((32:Nat):Int) from rfl]
 simp only[bnd_mk]
 rw[shl_u (by omega),shl_u (by omega),show wr .u64 (64-wr .u64 ((32:Nat):Int))=wr .u64 ((32:Nat):Int) from rfl,shr_u (by omega) h0,show decide (wr .u64 ((32:Nat):Int)>=64)=false from rfl]
 simp only[bnd_mk,cnd_f]
 rw[show(2:Int) ^ 32=4294967296 from rfl,show wr .u64 (0*4294967296)=0*2 ^ 32 from rfl,or_add 32 (by omega) (by omega) (by omega) (by omega) (by rw[show(2:Int) ^ 32=4294967296 from rfl];omega)]
 have e:wr .u64 (u*4294967296)=u % 4294967296*4294967296:=by rw[wru_mod];omega
 rw[e,Int.zero_mul,Int.zero_add]
 have hs:∃ w,pair_Shr ((u / 4294967296,u % 4294967296*4294967296,()),((32:Nat):Int),())=some w:=by
  unfold pair_Shr pair_held
  dsimp only
  rw[show minL (maxL ((32:Nat):Int) [0]) [128]=((32:Nat):Int) from rfl]
  simp only[bnd_mk]
  rw[show decide (wr .u64 ((32:Nat):Int)>=64)=false from rfl,cnd_f,shr_u (by omega) (by omega),shr_u (by omega) (by omega),show wr .u64 (64-wr .u64 ((32:Nat):Int))=wr .u64 ((32:Nat):Int) from rfl,shl_u (by omega)]
  exact⟨_,rfl⟩
 obtain⟨w,hw⟩:=hs
 have hw':pair_Shr ((u / 4294967296,u % 4294967296*4294967296,()),32,())=some w:=hw
 rw[hw']
 exact⟨_,rfl⟩
theorem p_share(i n:Int) (h0:0<=i) (h1:i<n) (h2:2<=n) (h3:n<=1099511627776):lerp_Share (i,n,())=some (Rd (i*4294967296) (n-1),0,()):=by
 unfold lerp_Share
 dsimp only
 rw[decide_eq_false (by omega:¬ n<1),decide_eq_false (by omega:¬ n>1099511627776),decide_eq_false (by omega:¬ i<0),decide_eq_false (by omega:¬ i>=n),decide_eq_false (by omega:¬ n=1)]
 simp only[bnd_mk,cnd_t,cnd_f,Bool.not_false]
 rw[wru_id (x:=i) h0 (by omega),wr_id (x:=n-1) (by omega) (by omega),wru_id (x:=n-1) (by omega) (by omega)]
 obtain⟨b,e⟩:=p_shl32 i h0 (by omega)
 rw[e,bnd_mk,p_near _ _ _ (by omega) (by omega) (by omega) (by omega) (by omega) (by omega),bnd_mk]
 rw[show i / 4294967296*18446744073709551616+i % 4294967296*4294967296=i*4294967296 by omega]
 unfold NearS
 have hb:Rd (i*4294967296) (n-1)<=4294967296:=rd_bound (by omega) (by omega)
 have hb0:=rd_nonneg (n:=i*4294967296) (d:=n-1) (by omega) (by omega)
 rw[if_neg (by omega),if_neg (by omega),if_neg (by omega)]
 dsimp only
 rw[wr_id (by omega) (by omega)]
theorem p_scaled(d t:Int) (h0:0<=d) (h1:d<18446744073709551616) (t0:0<=t) (t1:t<=4294967296):lerp_scaled (d,t,())=some (Rd (d*t) 4294967296):=by
 unfold lerp_scaled
 dsimp only
 rw[wru_id (x:=t) t0 (by omega),p_mul d t h0 h1 t0 (by omega),bnd_mk]
 have hn:0<=d*t:=Int.mul_nonneg h0 t0
 have hn2:d*t<=d*4294967296:=Int.mul_le_mul_of_nonneg_left t1 h0
 have hb:Rd (d*t) 4294967296<=d:=rd_bound (by omega) hn2
 generalize d*t=n at *
 rw[p_shift32 _ _ (by omega) (by omega) (by omega) (by omega),bnd_mk,show n / 18446744073709551616*18446744073709551616+n % 18446744073709551616=n by omega]
 unfold NearS
 rw[if_neg (by omega),if_neg (by omega),if_neg (by omega)]
def LerpS(a b t:Int):Int:=if a<=b then a+Rd ((b-a)*t) 4294967296 else a-Rd ((a-b)*t) 4294967296
theorem p_lerp(a b t:Int) (a0:-9223372036854775808<=a) (a1:a<=9223372036854775807) (b0:-9223372036854775808<=b) (b1:b<=9223372036854775807) (t0:0<=t) (t1:t<=4294967296):lerp_At (a,b,t,())=some (LerpS a b t,0,()):=by
 unfold lerp_At lerp_far LerpS
 dsimp only
 rw[decide_eq_false (by omega:¬ t<0),decide_eq_false (by omega:¬ t>4294967296)]
 simp only[bnd_mk,cnd_t,cnd_f,Bool.not_false]
 by_cases h:a<=b
 ·rw[decide_eq_true h,if_pos h,cnd_t,show wr .u64 (wr .u64 b-wr .u64 a)=b-a by rw[wru_mod,wru_mod,wru_mod];omega,p_scaled (b-a) t (by omega) (by omega) t0 t1,bnd_mk]
  have hb:Rd ((b-a)*t) 4294967296<=b-a:=rd_bound (by omega) (Int.mul_le_mul_of_nonneg_left t1 (by omega))
  have hb0:=rd_nonneg (n:=(b-a)*t) (d:=4294967296) (by omega) (Int.mul_nonneg (by omega) t0)
  generalize Rd ((b-a)*t) 4294967296=x at *
  congr 2
  rw[wru_mod,wru_mod]
  simp only[wr,IntKind.wrap,IntKind.signed,IntKind.bits,Bool.true_and,if_true]
  split<;>(simp at *;omega)
 ·rw[decide_eq_false h,if_neg h,cnd_f,show wr .u64 (wr .u64 a-wr .u64 b)=a-b by rw[wru_mod,wru_mod,wru_mod];omega,p_scaled (a-b) t (by omega) (by omega) t0 t1,bnd_mk]
  have hb:Rd ((a-b)*t) 4294967296<=a-b:=rd_bound (by omega) (Int.mul_le_mul_of_nonneg_left t1 (by omega))
  have hb0:=rd_nonneg (n:=(a-b)*t) (d:=4294967296) (by omega) (Int.mul_nonneg (by omega) t0)
  generalize Rd ((a-b)*t) 4294967296=x at *
  congr 2
  rw[wru_mod,wru_mod]
  simp only[wr,IntKind.wrap,IntKind.signed,IntKind.bits,Bool.true_and,if_true]
  split<;>(simp at *;omega)
def tm(x y:Int):Int:=Rd (x*y) 4294967296
theorem tm_range{x y:Int} (x0:0<=x) (x1:x<=4294967296) (y0:0<=y) (y1:y<=4294967296):0<=tm x y/\tm x y<=4294967296:=by
 refine⟨rd_nonneg (by omega) (Int.mul_nonneg x0 y0),rd_bound (by omega) ?_⟩
 have h1:x*y<=4294967296*y:=Int.mul_le_mul_of_nonneg_right x1 y0
 omega
theorem tm_mono{x y x' y':Int} (x0:0<=x) (y0:0<=y) (hx:x<=x') (hy:y<=y'):tm x y<=tm x' y':=by
 refine rd_mono (by omega) ?_
 have h1:x*y<=x'*y:=Int.mul_le_mul_of_nonneg_right hx y0
 have h2:x'*y<=x'*y':=Int.mul_le_mul_of_nonneg_left hy (by omega)
 omega
theorem mul_nn(x y:Int) (x0:0<=x) (x1:x<=4503599627370496) (y0:0<=y) (y1:y<=4294967296):MulS x y=(tm x y,0,()):=by
 unfold MulS Abs tm
 rw[if_neg (by omega),if_neg (by omega),decide_eq_false (by omega:¬ x<0),decide_eq_false (by omega:¬ y<0)]
 have h1:x*y<=4503599627370496*4294967296:=by
  have h1:x*y<=4503599627370496*y:=Int.mul_le_mul_of_nonneg_right x1 y0
  omega
 have hb:Rd (x*y) 4294967296<=4503599627370496:=rd_bound (by omega) h1
 unfold Sg
 rw[if_neg (by omega)]
 rfl
theorem and_one{n:Int} (h0:0<=n) (h1:n<9223372036854775808):bitI .and .i64 n 1=n % 2:=by
 have e:(BitVec.ofInt 64 n &&& BitVec.ofInt 64 1).toNat=(n % 2).toNat:=by
  rw[BitVec.toNat_and,BitVec.toNat_ofInt,BitVec.toNat_ofInt]
  rw[show((1:Int) % ((2 ^ 64:Nat):Int)).toNat=2 ^ 1-1 from rfl,Nat.and_two_pow_sub_one_eq_mod]
  rw[show((2 ^ 64:Nat):Int)=18446744073709551616 from rfl]
  omega
 show wr .i64 ((BitVec.ofInt 64 n &&& BitVec.ofInt 64 1).toNat:Int)=_
 rw[e,wr_id (by omega) (by omega)]
 omega
def powF:Nat->Nat->Int->Int->Int
 | 0,_,_,r=>r
 | f+1,n,x,r=>if n=0 then r else powF f (n / 2) (tm x x) (if n % 2=1 then tm r x else r)
theorem powF_mono:∀ (f n:Nat) {x r x' r':Int},0<=x->x<=x'->x'<=4294967296->0<=r->r<=r'->r'<=4294967296->0<=powF f n x r/\powF f n x r<=powF f n x' r'/\powF f n x' r'<=4294967296
 | 0,n,x,r,x',r',_,_,_,h1,h2,h3=>⟨h1,h2,h3⟩
 | f+1,n,x,r,x',r',x0,x1,x2,r0,r1,r2=>by
  simp only[powF]
  by_cases hn:n=0
  ·simp only[hn,if_true];exact⟨r0,r1,r2⟩
  ·simp only[hn,if_false]
   have t1:=tm_range x0 (by omega:x<=4294967296) x0 (by omega:x<=4294967296)
   have t2:=tm_mono x0 x0 x1 x1
   have t3:=tm_range (by omega:0<=x') x2 (by omega:0<=x') x2
   by_cases hb:n % 2=1
   ·simp only[hb,if_true]
    exact powF_mono f (n / 2) t1.1 t2 t3.2 (tm_range r0 (by omega) x0 (by omega)).1 (tm_mono r0 x0 r1 x1) (tm_range (by omega) r2 (by omega) x2).2
   ·simp only[hb,if_false]
    exact powF_mono f (n / 2) t1.1 t2 t3.2 r0 r1 r2
theorem p_powtimes(x y:Int) (x0:0<=x) (x1:x<=4294967296) (y0:0<=y) (y1:y<=4294967296):pow_times (x,y,())=some (tm x y):=by
 unfold pow_times
 dsimp only
 rw[p_fixmul x y (by omega) (by omega) (by omega) (by omega),mul_nn x y x0 (by omega) y0 y1]
 rfl
theorem p_pow(x:Int) (n:Nat) (x0:0<=x) (x1:x<=4294967296) (hn:n<=1099511627776):pow_Of (x,(n:Int),())=some (powF 64 n x 4294967296,0,()):=by
 have key:∀ (f n:Nat) (x r:Int),n<2 ^ f->n<=1099511627776->0<=x->x<=4294967296->0<=r->r<=4294967296->loopP (fun(s5:Int×Int×Int×Unit)=>cnd (decide (s5.2.1>0)) (bnd (cnd (decide ((bitI .and .i64 s5.2.1 1)=1)) (bnd (pow_times (s5.2.2.1,s5.1,())) fun r7=>some (r7,())) (some (s5.2.2.1,()))) fun j6=>bnd (pow_times (s5.1,s5.1,())) fun r8=>inlE (r8,Int.fdiv s5.2.1 (2 ^ 1),j6.1,())) (inrE (some (s5.2.2.1,())))) (x,(n:Int),r,())=some (powF f n x r,()):=by
  intro f
  induction f with
  | zero =>
   intro n x r h _ _ _ _ _
   have:n=0:=by omega
   subst this
   exact loopP_done (by rfl)
  | succ f ih =>
   intro n x r h hn x0 x1 r0 r1
   by_cases hz:n=0
   ·subst hz
    exact loopP_done (by rfl)
   ·have t1:=tm_range x0 x1 x0 x1
    have t2:=tm_range r0 r1 x0 x1
    rw[loopP_step (s':=(tm x x,((n / 2:Nat):Int),(if n % 2=1 then tm r x else r),()))]
    ·simp only[powF,hz,if_false]
     by_cases hb:n % 2=1
     ·rw[if_pos hb]
      have e:=ih (n / 2) (tm x x) (tm r x) (by rw[Nat.pow_succ] at h;omega) (by omega) t1.1 t1.2 t2.1 t2.2
      exact e
     ·rw[if_neg hb]
      have e:=ih (n / 2) (tm x x) r (by rw[Nat.pow_succ] at h;omega) (by omega) t1.1 t1.2 r0 r1
      exact e
    ·dsimp only
     rw[decide_eq_true (by omega:(n:Int)>0),cnd_t,and_one (by omega) (by omega),p_powtimes x x x0 x1 x0 x1,p_powtimes r x r0 r1 x0 x1,show(2:Int) ^ 1=2 from rfl,fdiv_pos 2 (by omega)]
     by_cases hb:n % 2=1
     ·rw[if_pos hb,decide_eq_true (by omega:(n:Int) % 2=1)]
      simp only[bnd_mk,cnd_t,inlE]
      rfl
     ·rw[if_neg hb,decide_eq_false (by omega:¬ (n:Int) % 2=1)]
      simp only[bnd_mk,cnd_f,inlE]
      rfl
 unfold pow_Of pow_may
 dsimp only
 rw[decide_eq_true (by omega:x>=0),decide_eq_true x1,decide_eq_false (by omega:¬ (n:Int)<0),decide_eq_false (by omega:¬ (n:Int)>1099511627776)]
 simp only[bnd_mk,cnd_t,cnd_f,Bool.not_false,Bool.not_true]
 have e:=key 64 n x 4294967296 (by omega) hn x0 x1 (by omega) (by omega)
 rw[e]
 rfl
end Go.Proofs.YtmomjjgokeffnaaGreat.F
