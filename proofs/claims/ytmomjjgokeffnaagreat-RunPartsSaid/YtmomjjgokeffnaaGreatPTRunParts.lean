/- Half a cosine's wave: the program's and the reference's are the same. -/
import Derived.Test.YtmomjjgokeffnaaGreatPSRunParts
set_option linter.unusedVariables false
set_option linter.unusedSimpArgs false
namespace Go.Proofs.YtmomjjgokeffnaaGreat.F
open Go.VX
theorem tm_q{u x:Int} (u0:0<=u) (u1:u<=1073741824) (x0:0<=x):0<=tm u x/\tm u x<=x / 4+1:=by
 refine⟨rd_nonneg (by omega) (Int.mul_nonneg u0 x0),rd_bound (by omega) ?_⟩
 have h1:u*x<=1073741824*x:=Int.mul_le_mul_of_nonneg_right u1 x0
 omega
def polyS(u:Int):Int:=4294967296-tm u (4014944880-tm u (1372256329-tm u (245884610-tm u (27198923-tm u 2044063))))
theorem poly_b{u:Int} (u0:0<=u) (u1:u<=1073741824):0<=27198923-tm u 2044063/\27198923-tm u 2044063<=27198923/\0<=245884610-tm u (27198923-tm u 2044063)/\245884610-tm u (27198923-tm u 2044063)<=245884610 /\
  0<=1372256329-tm u (245884610-tm u (27198923-tm u 2044063))/\1372256329-tm u (245884610-tm u (27198923-tm u 2044063))<=1372256329/\0<=4014944880-tm u (1372256329-tm u (245884610-tm u (27198923-tm u 2044063)))/\4014944880-tm u (1372256329-tm u (245884610-tm u (27198923-tm u 2044063)))<=4014944880/\0<=polyS u/\polyS u<=4294967296:=by
 have h1:=tm_q u0 u1 (by omega:(0:Int)<=2044063)
 have h2:=tm_q u0 u1 (by omega:(0:Int)<=27198923-tm u 2044063)
 have h3:=tm_q u0 u1 (by omega:(0:Int)<=245884610-tm u (27198923-tm u 2044063))
 have h4:=tm_q u0 u1 (by omega:(0:Int)<=1372256329-tm u (245884610-tm u (27198923-tm u 2044063)))
 have h5:=tm_q u0 u1 (by omega:(0:Int)<=4014944880-tm u (1372256329-tm u (245884610-tm u (27198923-tm u 2044063))))
 unfold polyS
 omega
def lowS(t:Int):Int:=tm (4294967296-4*tm t t) (polyS (tm t t))
theorem u_b{t:Int} (t0:0<=t) (t1:t<=2147483648):0<=tm t t/\tm t t<=1073741824:=by
 refine⟨rd_nonneg (by omega) (Int.mul_nonneg t0 t0),rd_bound (by omega) ?_⟩
 have h1:t*t<=2147483648*t:=Int.mul_le_mul_of_nonneg_right t1 t0
 omega
theorem low_b{t:Int} (t0:0<=t) (t1:t<=2147483648):0<=lowS t/\lowS t<=4294967296:=by
 have hu:=u_b t0 t1
 have hp:=poly_b hu.1 hu.2
 exact tm_range (by omega) (by omega) hp.2.2.2.2.2.2.2.2.1 hp.2.2.2.2.2.2.2.2.2
theorem r_wtimes(x y:Int) (x0:0<=x) (x1:x<=4503599627370496) (y0:0<=y) (y1:y<=4294967296):q08_times (x,y,())=some (tm x y):=by
 unfold q08_times
 dsimp only
 rw[rmul x y (by omega) (by omega) (by omega) (by omega),mul_nn x y x0 x1 y0 y1]
 rfl
theorem p_wtimes(x y:Int) (x0:0<=x) (x1:x<=4503599627370496) (y0:0<=y) (y1:y<=4294967296):wave_times (x,y,())=some (tm x y):=by
 unfold wave_times
 dsimp only
 rw[p_fixmul x y (by omega) (by omega) (by omega) (by omega),mul_nn x y x0 x1 y0 y1]
 rfl
theorem r_low(t:Int) (t0:0<=t) (t1:t<=2147483648):q08_low (t,())=some (lowS t):=by
 unfold q08_low lowS
 dsimp only
 have hu:=u_b t0 t1
 rw[r_wtimes t t t0 (by omega) t0 (by omega),bnd_mk]
 generalize tm t t=u at *
 have hp:=poly_b hu.1 hu.2
 have h5:=hp.2.2.2.2.2.2.2.2
 unfold polyS at *
 rw[r_wtimes u 2044063 hu.1 (by omega) (by omega) (by omega),bnd_mk,wr_id (x:=27198923-_) (by omega) (by omega),
  r_wtimes u _ hu.1 (by omega) (by omega) (by omega),bnd_mk,wr_id (x:=245884610-_) (by omega) (by omega),
  r_wtimes u _ hu.1 (by omega) (by omega) (by omega),bnd_mk,wr_id (x:=1372256329-_) (by omega) (by omega),
  r_wtimes u _ hu.1 (by omega) (by omega) (by omega),bnd_mk,wr_id (x:=4014944880-_) (by omega) (by omega),
  r_wtimes u _ hu.1 (by omega) (by omega) (by omega),bnd_mk,wr_id (x:=4*u) (by omega) (by omega),wr_id (x:=4294967296-4*u) (by omega) (by omega),wr_id (by omega) (by omega),
  r_wtimes _ _ (by omega) (by omega) (by omega) (by omega)]
 rfl
theorem p_poly(u:Int) (u0:0<=u) (u1:u<=1073741824):wave_poly (u,())=some (polyS u):=by
 have hp:=poly_b u0 u1
 unfold wave_poly
 dsimp only
 have st:∀ (k v i:Int) (x:Int),ati [2044063,27198923,245884610,1372256329,4014944880,4294967296] i=some k->0<=i->i<6->0<=x->x<=4294967296->-9223372036854775808<=k-tm u x->k-tm u x<=9223372036854775807->(fun(s2:Int×Int×Unit)=>cnd (decide (s2.2.1<6)) (bnd (ati [2044063,27198923,245884610,1372256329,4014944880,4294967296] s2.2.1) fun v3=>bnd (wave_times (u,s2.1,())) fun r4=>inlE (wr .i64 (v3-r4),wr .i64 (s2.2.1+1),())) (inrE (some (s2.1,())):Option ((Int×Int×Unit) ⊕ (Int×Unit)))) (x,i,())=some (.inl (k-tm u x,i+1,())):=by
  intro k v i x hk h0 h1 h2 h3 h4 h5
  dsimp only
  rw[decide_eq_true h1,cnd_t,hk,bnd_mk,p_wtimes u x u0 (by omega) h2 h3,bnd_mk,wr_id h4 h5,wr_id (by omega) (by omega)]
  rfl
 have t0:tm u 0=0:=by unfold tm;rw[Int.mul_zero];rfl
 have h5:=hp.2.2.2.2.2.2.2.2
 unfold polyS at *
 rw[loopP_step (st 2044063 0 0 0 rfl (by omega) (by omega) (by omega) (by omega) (by omega) (by omega)),t0,show(2044063:Int)-0=2044063 from rfl,show(0:Int)+1=1 from rfl,
  loopP_step (st 27198923 0 1 2044063 rfl (by omega) (by omega) (by omega) (by omega) (by omega) (by omega)),show(1:Int)+1=2 from rfl,
  loopP_step (st 245884610 0 2 _ rfl (by omega) (by omega) (by omega) (by omega) (by omega) (by omega)),show(2:Int)+1=3 from rfl,
  loopP_step (st 1372256329 0 3 _ rfl (by omega) (by omega) (by omega) (by omega) (by omega) (by omega)),show(3:Int)+1=4 from rfl,
  loopP_step (st 4014944880 0 4 _ rfl (by omega) (by omega) (by omega) (by omega) (by omega) (by omega)),show(4:Int)+1=5 from rfl,
  loopP_step (st 4294967296 0 5 _ rfl (by omega) (by omega) (by omega) (by omega) (by omega) (by omega)),show(5:Int)+1=6 from rfl,
  loopP_done (by rfl),bnd_mk]
theorem p_cos(t:Int) (t0:0<=t) (t1:t<=2147483648):wave_cos (t,())=some (lowS t):=by
 unfold wave_cos lowS
 dsimp only
 have hu:=u_b t0 t1
 rw[p_wtimes t t t0 (by omega) t0 (by omega),bnd_mk]
 generalize tm t t=u at *
 have hp:=poly_b hu.1 hu.2
 have h5:=hp.2.2.2.2.2.2.2.2
 rw[p_poly u hu.1 hu.2,bnd_mk,show(2:Int) ^ 2=4 from rfl,wr_id (x:=u*4) (by omega) (by omega),wr_id (by omega) (by omega),Int.mul_comm u 4,p_wtimes _ _ (by omega) (by omega) h5.1 h5.2]
 rfl
def WaveS(t:Int):Int:=if t>2147483648 then 4294967296-(4294967296+lowS (4294967296-t)) / 2 else(4294967296+lowS t) / 2
theorem waveS_b(t:Int) (t0:0<=t) (t1:t<=4294967296):0<=WaveS t/\WaveS t<=4294967296:=by
 unfold WaveS
 by_cases h:t>2147483648
 ·have:=low_b (t:=4294967296-t) (by omega) (by omega)
  rw[if_pos h];omega
 ·have:=low_b (t:=t) t0 (by omega)
  rw[if_neg h];omega
theorem p_wave(t:Int) (t0:0<=t) (t1:t<=4294967296):wave_At (t,())=some (WaveS t,0,()):=by
 unfold wave_At wave_Cos wave_may WaveS
 dsimp only
 rw[decide_eq_true (by omega:t>=0),decide_eq_true t1]
 simp only[bnd_mk,cnd_t,cnd_f,Bool.not_true]
 rw[show(2:Int) ^ 1=2 from rfl]
 by_cases h:t>2147483648
 ·have hl:=low_b (t:=4294967296-t) (by omega) (by omega)
  rw[decide_eq_true h,cnd_t,if_pos h,wr_id (x:=4294967296-t) (by omega) (by omega),p_cos _ (by omega) (by omega)]
  generalize lowS (4294967296-t)=c at *
  simp only[bnd_mk]
  rw[wr_id (x:=0-c) (by omega) (by omega)]
  simp only[decide_true,Bool.not_true,cnd_f]
  by_cases hc:0-c<0
  ·rw[decide_eq_true hc,cnd_t,wr_id (x:=4294967296-(0-c)) (by omega) (by omega),fdiv_pos 2 (by omega),wr_id (by omega) (by omega)]
   congr 2;omega
  ·rw[decide_eq_false hc,cnd_f,wr_id (x:=4294967296+(0-c)) (by omega) (by omega),fdiv_pos 2 (by omega)]
   congr 2;omega
 ·have hl:=low_b (t:=t) t0 (by omega)
  rw[decide_eq_false h,cnd_f,if_neg h,p_cos _ t0 (by omega)]
  generalize lowS t=c at *
  simp only[bnd_mk,decide_true,Bool.not_true,cnd_f]
  rw[decide_eq_false (by omega:¬ c<0),cnd_f,wr_id (x:=4294967296+c) (by omega) (by omega),fdiv_pos 2 (by omega)]
theorem r_wave_low(t:Int) (t0:0<=t) (t1:t<=2147483648) (n:Nat):q08_At_r (n+1) (t,())=some (WaveS t):=by
 simp only[q08_At_r]
 have hl:=low_b (t:=t) t0 (by omega)
 rw[decide_eq_false (by omega:¬ t>2147483648),cnd_f,r_low t t0 t1,bnd_mk,wr_id (x:=4294967296+lowS t) (by omega) (by omega),Int.tdiv_eq_ediv_of_nonneg (by omega),wr_id (by omega) (by omega)]
 unfold WaveS
 rw[if_neg (by omega)]
theorem r_wave(t:Int) (t0:0<=t) (t1:t<=4294967296):q08_At (t,())=some (WaveS t):=by
 have h2:∀ n,q08_At_r (n+2) (t,())=some (WaveS t):=by
  intro n
  by_cases h:t>2147483648
  ·have hw:=waveS_b (4294967296-t) (by omega) (by omega)
   rw[show n+2=(n+1)+1 from rfl]
   unfold q08_At_r
   dsimp only
   rw[decide_eq_true h,cnd_t,wr_id (x:=4294967296-t) (by omega) (by omega),r_wave_low _ (by omega) (by omega) n,bnd_mk,wr_id (by omega) (by omega)]
   congr 1
   unfold WaveS
   rw[if_neg (by omega),if_pos h]
  ·exact r_wave_low t t0 (by omega) (n+1)
 refine recP_is (fun n y hy=>?_) 2 (h2 0)
 match n with
 | 0=>cases hy
 | 1 =>
  by_cases h:t>2147483648
  ·simp only[q08_At_r] at hy
   rw[decide_eq_true h,cnd_t] at hy
   cases hy
  ·rw[r_wave_low t t0 (by omega) 0] at hy
   exact(Option.some.inj hy).symm
 | n+2 =>
  rw[h2 n] at hy
  exact(Option.some.inj hy).symm
end Go.Proofs.YtmomjjgokeffnaaGreat.F
