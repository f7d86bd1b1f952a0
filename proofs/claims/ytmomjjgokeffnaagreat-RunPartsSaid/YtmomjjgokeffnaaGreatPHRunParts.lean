/- Two words divided by one. -/
import Derived.Test.YtmomjjgokeffnaaGreatPGRunParts
set_option linter.unusedVariables false
set_option linter.unusedSimpArgs false
namespace Go.Proofs.YtmomjjgokeffnaaGreat.F
open Go.VX
theorem guess(u v1 v0 t:Int) (hv1:2147483648<=v1) (hv1':v1<4294967296) (hv0:0<=v0) (hv0':v0<4294967296) (ht:0<=t) (ht':t<4294967296) (hu:0<=u) (huv:u<v1*4294967296+v0)
  (q r:Int) (hq:0<=q) (hr:r=u-q*v1) (hr0:0<=r) (hr1:r<4294967296) (hq2:q<=4294967297) (hqQ:(u*4294967296+t) / (v1*4294967296+v0)<=q) :
  (q>=4294967296\/q*v0>4294967296*r+t->(u*4294967296+t) / (v1*4294967296+v0)<=q-1/\0<=q-1)/\(¬ (q>=4294967296\/q*v0>4294967296*r+t)->q=(u*4294967296+t) / (v1*4294967296+v0)):=by
 have hD:0<v1*4294967296+v0:=by omega
 have hdm:=Int.emod_add_mul_ediv (u*4294967296+t) (v1*4294967296+v0)
 have hm:=Int.emod_nonneg (u*4294967296+t) (by omega:v1*4294967296+v0≠0)
 have hm2:=Int.emod_lt_of_pos (u*4294967296+t) hD
 have hQ0:0<=(u*4294967296+t) / (v1*4294967296+v0):=Int.ediv_nonneg (by omega) (by omega)
 have hQ1:(u*4294967296+t) / (v1*4294967296+v0)<4294967296:=Int.ediv_lt_of_lt_mul hD (by omega)
 generalize hQ:(u*4294967296+t) / (v1*4294967296+v0)=Q at *
 generalize (u*4294967296+t) % (v1*4294967296+v0)=m at *
 have hqD:q*(v1*4294967296+v0)=(u-r)*4294967296+q*v0:=by rw[hr];grind
 constructor
 ·rintro(h | h)
  ·omega
  ·have:q≠Q:=by
    intro e
    subst e
    have:(v1*4294967296+v0)*q=q*(v1*4294967296+v0):=Int.mul_comm _ _
    omega
   omega
 ·intro h
  have h1:¬ q>=4294967296:=fun x=>h (.inl x)
  have h2:¬ q*v0>4294967296*r+t:=fun x=>h (.inr x)
  by_cases hlt:Q<q
  ·have h3:(v1*4294967296+v0)*(Q+1)<=(v1*4294967296+v0)*q:=Int.mul_le_mul_of_nonneg_left (by omega) (by omega)
   have h4:(v1*4294967296+v0)*(Q+1)=(v1*4294967296+v0)*Q+(v1*4294967296+v0):=by grind
   have:(v1*4294967296+v0)*q=q*(v1*4294967296+v0):=Int.mul_comm _ _
   omega
  ·omega
theorem great(u v1 v0 t:Int) (hv1:2147483648<=v1) (hv0:0<=v0) (hv0':v0<4294967296) (ht:0<=t) (hu:0<=u)
  (q r:Int) (hq:0<=q) (hr:r=u-q*v1) (hr1:4294967296<=r) (hq2:q<=4294967296) (hqQ:(u*4294967296+t) / (v1*4294967296+v0)<=q):q=(u*4294967296+t) / (v1*4294967296+v0):=by
 have hD:0<v1*4294967296+v0:=by omega
 have h1:q*v0<=4294967296*4294967295:=by
  have h1:q*v0<=4294967296*v0:=Int.mul_le_mul_of_nonneg_right hq2 hv0
  omega
 have hqD:q*(v1*4294967296+v0)=(u-r)*4294967296+q*v0:=by rw[hr];grind
 have:q<=(u*4294967296+t) / (v1*4294967296+v0):=(Int.le_ediv_iff_mul_le hD).2 (by omega)
 omega
theorem first(u v1 v0 t:Int) (hv1:2147483648<=v1) (hv0:0<=v0) (hv0':v0<4294967296) (ht:0<=t) (ht':t<4294967296) (hu:0<=u) (huv:u<v1*4294967296+v0) :
  (u*4294967296+t) / (v1*4294967296+v0)<=u / v1/\u / v1<=4294967297:=by
 have hD:0<v1*4294967296+v0:=by omega
 constructor
 ·refine(Int.le_ediv_iff_mul_le (by omega)).2 ?_
  have hdm:=Int.emod_add_mul_ediv (u*4294967296+t) (v1*4294967296+v0)
  have hm:=Int.emod_nonneg (u*4294967296+t) (by omega:v1*4294967296+v0≠0)
  have hQ0:0<=(u*4294967296+t) / (v1*4294967296+v0):=Int.ediv_nonneg (by omega) (by omega)
  generalize (u*4294967296+t) / (v1*4294967296+v0)=Q at *
  have h1:(v1*4294967296+v0)*Q=Q*v1*4294967296+v0*Q:=by grind
  have h2:0<=v0*Q:=Int.mul_nonneg hv0 hQ0
  omega
 ·have:u / v1<4294967298:=Int.ediv_lt_of_lt_mul (by omega) (by omega)
  omega
theorem digit_loop(u v1 v0 t:Int) (hv1:2147483648<=v1) (hv1':v1<4294967296) (hv0:0<=v0) (hv0':v0<4294967296) (ht:0<=t) (ht':t<4294967296) (hu:0<=u) (huv:u<v1*4294967296+v0) :
  loopP (fun(s10:Int×Int×Unit)=>bnd (cnd (!(decide (s10.1>=4294967296))) (some (decide ((wr .u64 (s10.1*v0))>(wr .u64 ((wr .u64 (4294967296*s10.2.1))+t))))) (some true)) fun j11=>cnd j11 (cnd (decide ((wr .u64 (s10.2.1+v1))>=4294967296)) (inrE (some (wr .u64 (s10.1-1),()))) (inlE (wr .u64 (s10.1-1),wr .u64 (s10.2.1+v1),()))) (inrE (some (s10.1,())))) (u / v1,u-u / v1*v1,())=some ((u*4294967296+t) / (v1*4294967296+v0),()):=by
 obtain⟨r,e,h⟩:=loop_rule (f:=(fun(s10:Int×Int×Unit)=>bnd (cnd (!(decide (s10.1>=4294967296))) (some (decide ((wr .u64 (s10.1*v0))>(wr .u64 ((wr .u64 (4294967296*s10.2.1))+t))))) (some true)) fun j11=>cnd j11 (cnd (decide ((wr .u64 (s10.2.1+v1))>=4294967296)) (inrE (some (wr .u64 (s10.1-1),()))) (inlE (wr .u64 (s10.1-1),wr .u64 (s10.2.1+v1),()))) (inrE (some (s10.1,())))))
  (fun s=>0<=s.1/\s.1<=4294967297/\s.2.1=u-s.1*v1/\0<=s.2.1/\s.2.1<4294967296/\(u*4294967296+t) / (v1*4294967296+v0)<=s.1) (fun s=>(4294967296-s.2.1).toNat) (fun r=>r=((u*4294967296+t) / (v1*4294967296+v0),())) (fun s ⟨i0,i1,i2,i3,i4,i5⟩=>by
   obtain⟨q,r,_⟩:=s
   dsimp only at *
   have hqv:0<=q*v0/\q*v0<18446744073709551616:=by
    have h1:q*v0<=4294967297*v0:=Int.mul_le_mul_of_nonneg_right i1 hv0
    have h2:=Int.mul_nonneg i0 hv0
    omega
   have hg:=guess u v1 v0 t hv1 hv1' hv0 hv0' ht ht' hu huv q r i0 i2 i3 i4 i1 i5
   rw[wru_id (x:=q*v0) hqv.1 hqv.2,wru_id (x:=4294967296*r) (by omega) (by omega),wru_id (x:=4294967296*r+t) (by omega) (by omega),wru_id (x:=r+v1) (by omega) (by omega)]
   by_cases hc:q>=4294967296\/q*v0>4294967296*r+t
   ·have hg1:=hg.1 hc
    have hb:(cnd (!(decide (q>=4294967296))) (some (decide (q*v0>4294967296*r+t))) (some true))=some true:=by
     rcases hc with hc | hc
     ·rw[decide_eq_true hc];rfl
     ·rw[decide_eq_true hc];cases decide (q>=4294967296)<;>rfl
    have hr':r+v1=u-(q-1)*v1:=by rw[i2];grind
    rw[hb,bnd_mk,cnd_t,wru_id (x:=q-1) (by omega) (by omega)]
    by_cases hb2:r+v1>=4294967296
    ·right
     refine⟨_,by rw[decide_eq_true hb2];rfl,?_⟩
     rw[← great u v1 v0 t hv1 hv0 hv0' ht hu (q-1) (r+v1) hg1.2 hr' hb2 (by omega) hg1.1]
    ·left
     refine⟨_,by rw[decide_eq_false hb2];rfl,⟨hg1.2,by dsimp only;omega,hr',by dsimp only;omega,by dsimp only;omega,hg1.1⟩,by dsimp only;omega⟩
   ·right
    have hb:(cnd (!(decide (q>=4294967296))) (some (decide (q*v0>4294967296*r+t))) (some true))=some false:=by
     rw[decide_eq_false (fun x=>hc (.inl x)),decide_eq_false (fun x=>hc (.inr x))];rfl
    rw[hb,bnd_mk,cnd_f]
    refine⟨_,rfl,?_⟩
    rw[← hg.2 hc]) (u / v1,u-u / v1*v1,()) (by
    have hf:=first u v1 v0 t hv1 hv0 hv0' ht ht' hu huv
    have h1:=Int.emod_add_mul_ediv u v1
    have h2:=Int.emod_nonneg u (by omega:v1≠0)
    have h3:=Int.emod_lt_of_pos u (by omega:0<v1)
    have h4:u / v1*v1=v1*(u / v1):=Int.mul_comm _ _
    exact⟨Int.ediv_nonneg hu (by omega),hf.2,rfl,by dsimp only;omega,by dsimp only;omega,hf.1⟩)
 rw[e,h]
theorem digit_loop2(u v1 v0 t:Int) (hv1:2147483648<=v1) (hv1':v1<4294967296) (hv0:0<=v0) (hv0':v0<4294967296) (ht:0<=t) (ht':t<4294967296) (hu:0<=u) (huv:u<v1*4294967296+v0) :
  loopP (fun(s10:Int×Int×Unit)=>bnd (cnd (!(decide (s10.2.1>=4294967296))) (some (decide ((wr .u64 (s10.2.1*v0))>(wr .u64 ((wr .u64 (4294967296*s10.1))+t))))) (some true)) fun j11=>cnd j11 (cnd (decide ((wr .u64 (s10.1+v1))>=4294967296)) (inrE (some (wr .u64 (s10.2.1-1),()))) (inlE (wr .u64 (s10.1+v1),wr .u64 (s10.2.1-1),()))) (inrE (some (s10.2.1,())))) (u-u / v1*v1,u / v1,())=some ((u*4294967296+t) / (v1*4294967296+v0),()):=by
 obtain⟨r,e,h⟩:=loop_rule (f:=(fun(s10:Int×Int×Unit)=>bnd (cnd (!(decide (s10.2.1>=4294967296))) (some (decide ((wr .u64 (s10.2.1*v0))>(wr .u64 ((wr .u64 (4294967296*s10.1))+t))))) (some true)) fun j11=>cnd j11 (cnd (decide ((wr .u64 (s10.1+v1))>=4294967296)) (inrE (some (wr .u64 (s10.2.1-1),()))) (inlE (wr .u64 (s10.1+v1),wr .u64 (s10.2.1-1),()))) (inrE (some (s10.2.1,())))))
  (fun s=>0<=s.2.1/\s.2.1<=4294967297/\s.1=u-s.2.1*v1/\0<=s.1/\s.1<4294967296/\(u*4294967296+t) / (v1*4294967296+v0)<=s.2.1) (fun s=>(4294967296-s.1).toNat) (fun r=>r=((u*4294967296+t) / (v1*4294967296+v0),())) (fun s ⟨i0,i1,i2,i3,i4,i5⟩=>by
   obtain⟨r,q,_⟩:=s
   dsimp only at *
   have hqv:0<=q*v0/\q*v0<18446744073709551616:=by
    have h1:q*v0<=4294967297*v0:=Int.mul_le_mul_of_nonneg_right i1 hv0
    have h2:=Int.mul_nonneg i0 hv0
    omega
   have hg:=guess u v1 v0 t hv1 hv1' hv0 hv0' ht ht' hu huv q r i0 i2 i3 i4 i1 i5
   rw[wru_id (x:=q*v0) hqv.1 hqv.2,wru_id (x:=4294967296*r) (by omega) (by omega),wru_id (x:=4294967296*r+t) (by omega) (by omega),wru_id (x:=r+v1) (by omega) (by omega)]
   by_cases hc:q>=4294967296\/q*v0>4294967296*r+t
   ·have hg1:=hg.1 hc
    have hb:(cnd (!(decide (q>=4294967296))) (some (decide (q*v0>4294967296*r+t))) (some true))=some true:=by
     rcases hc with hc | hc
     ·rw[decide_eq_true hc];rfl
     ·rw[decide_eq_true hc];cases decide (q>=4294967296)<;>rfl
    have hr':r+v1=u-(q-1)*v1:=by rw[i2];grind
    rw[hb,bnd_mk,cnd_t,wru_id (x:=q-1) (by omega) (by omega)]
    by_cases hb2:r+v1>=4294967296
    ·right
     refine⟨_,by rw[decide_eq_true hb2];rfl,?_⟩
     rw[← great u v1 v0 t hv1 hv0 hv0' ht hu (q-1) (r+v1) hg1.2 hr' hb2 (by omega) hg1.1]
    ·left
     refine⟨_,by rw[decide_eq_false hb2];rfl,⟨hg1.2,by dsimp only;omega,hr',by dsimp only;omega,by dsimp only;omega,hg1.1⟩,by dsimp only;omega⟩
   ·right
    have hb:(cnd (!(decide (q>=4294967296))) (some (decide (q*v0>4294967296*r+t))) (some true))=some false:=by
     rw[decide_eq_false (fun x=>hc (.inl x)),decide_eq_false (fun x=>hc (.inr x))];rfl
    rw[hb,bnd_mk,cnd_f]
    refine⟨_,rfl,?_⟩
    rw[← hg.2 hc]) (u-u / v1*v1,u / v1,()) (by
    have hf:=first u v1 v0 t hv1 hv0 hv0' ht ht' hu huv
    have h1:=Int.emod_add_mul_ediv u v1
    have h2:=Int.emod_nonneg u (by omega:v1≠0)
    have h3:=Int.emod_lt_of_pos u (by omega:0<v1)
    have h4:u / v1*v1=v1*(u / v1):=Int.mul_comm _ _
    exact⟨Int.ediv_nonneg hu (by omega),hf.2,rfl,by dsimp only;omega,by dsimp only;omega,hf.1⟩)
 rw[e,h]
theorem div64(hi lo y:Int) (h0:0<=hi) (hy:hi<y) (hy1:y<18446744073709551616) (l0:0<=lo) (l1:lo<18446744073709551616):bits_Div64 (hi,lo,y,())=some ((hi*18446744073709551616+lo) / y,(hi*18446744073709551616+lo) % y,()):=by
 unfold bits_Div64
 dsimp only
 rw[decide_eq_false (by omega:¬ y=0),decide_eq_false (by omega:¬ y<=hi),cnd_f,cnd_f]
 by_cases hz:hi=0
 ·rw[decide_eq_true hz,cnd_t,quo_u l0 l1 (by omega),rem_u l0 (by omega),hz]
  simp [bnd_mk]
 rw[decide_eq_false hz,cnd_f]
 obtain⟨s,e1,k1,k2,k3⟩:=lead64 y (by omega) hy1
 rw[e1,bnd_mk,shl_u (by omega),shl_u (by omega),shl_u (by omega)]
 rw[show wr .u64 (64-wr .u64 (s:Int))=wr .u64 ((64-s:Nat):Int) by rw[wru_id (x:=(s:Int)) (by omega) (by omega)];congr 1;omega,shr_u (by omega) l0,bnd_mk,bnd_mk,bnd_mk,bnd_mk]
 have hP:(0:Int)<2 ^ s:=Int.pow_pos (by omega)
 have hR:(0:Int)<2 ^ (64-s):=Int.pow_pos (by omega)
 have hPR:(2:Int) ^ s*2 ^ (64-s)=18446744073709551616:=by
  rw[← Int.pow_add,show s+(64-s)=64 by omega];rfl
 have hy64:y*2 ^ s>0:=by omega
 have hhi:hi*2 ^ s+2 ^ s<=y*2 ^ s:=by
  have h1:(hi+1)*2 ^ s<=y*2 ^ s:=Int.mul_le_mul_of_nonneg_right (by omega) (by omega)
  have h2:(hi+1)*2 ^ s=hi*2 ^ s+2 ^ s:=by grind
  omega
 have hhi0:0<=hi*2 ^ s:=Int.mul_nonneg h0 (by omega)
 have hlo:lo / 2 ^ (64-s)<2 ^ s:=Int.ediv_lt_of_lt_mul hR (by rw[hPR];exact l1)
 have hlo0:0<=lo / 2 ^ (64-s):=Int.ediv_nonneg l0 (by omega)
 rw[wru_id (x:=y*2 ^ s) (by omega) (by omega),wru_id (x:=hi*2 ^ s) (by omega) (by omega),or_add s (by omega) h0 (by omega) hlo0 hlo,wru_mod (lo*2 ^ s)]
 have hlos:lo*2 ^ s=lo / 2 ^ (64-s)*18446744073709551616+lo*2 ^ s % 18446744073709551616:=by
  have h1:=Int.emod_add_mul_ediv (lo*2 ^ s) 18446744073709551616
  have h2:lo*2 ^ s / 18446744073709551616=lo / 2 ^ (64-s):=by
   rw[← hPR,Int.mul_comm ((2:Int) ^ s),Int.mul_ediv_mul_of_pos_left _ _ hP]
  omega
 have hw0:0<=lo*2 ^ s % 18446744073709551616/\lo*2 ^ s % 18446744073709551616<18446744073709551616:=by omega
 have hN:(hi*18446744073709551616+lo)*2 ^ s=(hi*2 ^ s+lo / 2 ^ (64-s))*18446744073709551616+lo*2 ^ s % 18446744073709551616:=by
  have:(hi*18446744073709551616+lo)*2 ^ s=hi*2 ^ s*18446744073709551616+lo*2 ^ s:=by grind
  omega
 have huy:hi*2 ^ s+lo / 2 ^ (64-s)<y*2 ^ s:=by omega
 have hq:(hi*18446744073709551616+lo) / y=(hi*18446744073709551616+lo)*2 ^ s / (y*2 ^ s):=(Int.mul_ediv_mul_of_pos_left _ _ hP).symm
 have hm:(hi*18446744073709551616+lo) % y=(hi*18446744073709551616+lo)*2 ^ s % (y*2 ^ s) / 2 ^ s:=by
  rw[Int.mul_comm _ ((2:Int) ^ s),Int.mul_comm y,Int.mul_emod_mul_of_pos _ _ hP,Int.mul_ediv_cancel_left _ (by omega)]
 rw[hq,hm,hN]
 clear hq hm hN hlos
 have hu0:0<=hi*2 ^ s+lo / 2 ^ (64-s):=by omega
 generalize hY:y*2 ^ s=Y at *
 generalize hi*2 ^ s+lo / 2 ^ (64-s)=u at *
 generalize lo*2 ^ s % 18446744073709551616=w at *
 clear hhi hhi0 hlo hlo0 hR hPR hY
 rw[show(2:Int) ^ 32=4294967296 from rfl]
 simp only[fdiv_pos 4294967296 (by omega)]
 rw[and_low (x:=Y) (by omega) (by omega),and_low (x:=w) (by omega) (by omega),quo_u hu0 (by omega) (by omega),bnd_mk]
 have hYv:Y=Y / 4294967296*4294967296+Y % 4294967296:=by omega
 have hw:w=w / 4294967296*4294967296+w % 4294967296:=by omega
 have hv1:2147483648<=Y / 4294967296/\Y / 4294967296<4294967296:=by omega
 have hv0:0<=Y % 4294967296/\Y % 4294967296<4294967296:=by omega
 have ht1:0<=w / 4294967296/\w / 4294967296<4294967296:=by omega
 have ht0:0<=w % 4294967296/\w % 4294967296<4294967296:=by omega
 have hres:∀ u':Int,0<=u'->u'<18446744073709551616->wr .u64 (u'-wr .u64 (u' / (Y / 4294967296)*(Y / 4294967296)))=u'-u' / (Y / 4294967296)*(Y / 4294967296):=by
  intro u' h1 h2
  have h3:=Int.emod_add_mul_ediv u' (Y / 4294967296)
  have h4:=Int.emod_nonneg u' (by omega:Y / 4294967296≠0)
  have h5:u' / (Y / 4294967296)*(Y / 4294967296)=(Y / 4294967296)*(u' / (Y / 4294967296)):=Int.mul_comm _ _
  have h6:0<=u' / (Y / 4294967296):=Int.ediv_nonneg h1 (by omega)
  have h7:0<=(Y / 4294967296)*(u' / (Y / 4294967296)):=Int.mul_nonneg (by omega) h6
  rw[wru_id (x:=u' / (Y / 4294967296)*(Y / 4294967296)) (by omega) (by omega),wru_id (by omega) (by omega)]
 have hdl:=digit_loop u (Y / 4294967296) (Y % 4294967296) (w / 4294967296) hv1.1 hv1.2 hv0.1 hv0.2 ht1.1 ht1.2 hu0 (by omega)
 rw[hres u hu0 (by omega)]
 rw[hdl,bnd_mk]
 rw[← hYv]
 have hU1:=Int.emod_add_mul_ediv (u*4294967296+w / 4294967296) Y
 have hm1:=Int.emod_nonneg (u*4294967296+w / 4294967296) (by omega:Y≠0)
 have hm2:=Int.emod_lt_of_pos (u*4294967296+w / 4294967296) (by omega:0<Y)
 have hq1:0<=(u*4294967296+w / 4294967296) / Y/\(u*4294967296+w / 4294967296) / Y<4294967296:=⟨Int.ediv_nonneg (by omega) (by omega),Int.ediv_lt_of_lt_mul (by omega) (by omega)⟩
 have hsplit:u*18446744073709551616+w=(u*4294967296+w / 4294967296)*4294967296+w % 4294967296:=by omega
 generalize hq1v:(u*4294967296+w / 4294967296) / Y=q1 at *
 generalize (u*4294967296+w / 4294967296) % Y=m1 at *
 dsimp only
 have e21:wr .u64 (wr .u64 (wr .u64 (u*4294967296)+w / 4294967296)-wr .u64 (q1*Y))=m1:=by
  have:q1*Y=Y*q1:=Int.mul_comm _ _
  rw[wru_mod,wru_mod,wru_mod,wru_mod]
  omega
 rw[e21,quo_u hm1 (by omega) (by omega),bnd_mk]
 have hdl2:=digit_loop2 m1 (Y / 4294967296) (Y % 4294967296) (w % 4294967296) hv1.1 hv1.2 hv0.1 hv0.2 ht0.1 ht0.2 hm1 (by omega)
 rw[hres m1 hm1 (by omega),hdl2,bnd_mk,← hYv]
 dsimp only
 have hU2:=Int.emod_add_mul_ediv (m1*4294967296+w % 4294967296) Y
 have hn1:=Int.emod_nonneg (m1*4294967296+w % 4294967296) (by omega:Y≠0)
 have hn2:=Int.emod_lt_of_pos (m1*4294967296+w % 4294967296) (by omega:0<Y)
 have hq0:0<=(m1*4294967296+w % 4294967296) / Y/\(m1*4294967296+w % 4294967296) / Y<4294967296:=⟨Int.ediv_nonneg (by omega) (by omega),Int.ediv_lt_of_lt_mul (by omega) (by omega)⟩
 have hd:u*18446744073709551616+w=(m1*4294967296+w % 4294967296)+Y*(q1*4294967296):=by
  rw[hsplit,← hU1];grind
 have hdq:(u*18446744073709551616+w) / Y=q1*4294967296+(m1*4294967296+w % 4294967296) / Y:=by
  rw[hd,Int.add_mul_ediv_left _ _ (by omega)];omega
 have hdm:(u*18446744073709551616+w) % Y=(m1*4294967296+w % 4294967296) % Y:=by
  rw[hd,Int.add_mul_emod_self_left]
 rw[hdq,hdm]
 generalize (m1*4294967296+w % 4294967296) / Y=q0 at *
 generalize hn:(m1*4294967296+w % 4294967296) % Y=n at *
 have er:wr .u64 (wr .u64 (wr .u64 (m1*4294967296)+w % 4294967296)-wr .u64 (q0*Y))=n:=by
  have:q0*Y=Y*q0:=Int.mul_comm _ _
  rw[wru_mod,wru_mod,wru_mod,wru_mod]
  omega
 rw[er,shr_u (by omega) hn1,bnd_mk,wru_id (x:=q1*4294967296) (by omega) (by omega),wru_id (by omega) (by omega)]
end Go.Proofs.YtmomjjgokeffnaaGreat.F
