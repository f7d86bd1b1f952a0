/- Powers: the reference's, as the program's. -/
import Derived.Test.YtmomjjgokeffnaaGreatPRRunParts
set_option linter.unusedVariables false
set_option linter.unusedSimpArgs false
namespace Go.Proofs.YtmomjjgokeffnaaGreat.F
open Go.VX
def sq:Nat->Int->Int
 | 0,x=>x
 | i+1,x=>tm (sq i x) (sq i x)
theorem sq_range(x:Int) (x0:0<=x) (x1:x<=4294967296):∀ i,0<=sq i x/\sq i x<=4294967296
 | 0=>⟨x0,x1⟩
 | i+1=>by
  have h:=sq_range x x0 x1 i
  exact tm_range h.1 h.2 h.1 h.2
theorem r_part(x y:Int) (x0:0<=x) (x1:x<=4503599627370496) (y0:0<=y) (y1:y<=4294967296):q04_Part (x,y,())=some (tm x y):=by
 rw[rpart x y (by omega) (by omega) (by omega) (by omega),mul_nn x y x0 x1 y0 y1]
theorem r_squares(x:Int) (x0:0<=x) (x1:x<=4294967296) (n:Nat) (hn:n<=1000):∃ l,q06_Squares (x,(n:Int),())=some l/\l.length=n/\∀ i,i<n->nth 0 l i=sq i x:=by
 unfold q06_Squares
 dsimp only
 obtain⟨r,e,h1,h2⟩:=loop_rule (f:=(fun(s2:Int×List (Int)×Int×Unit)=>cnd (decide (s2.2.2.1<(n:Int))) (bnd (cnd (decide (s2.2.2.1>0)) (bnd (q04_Part (s2.1,s2.1,())) fun r4=>some (r4,())) (some (s2.1,()))) fun j3=>bnd (app 17592186044416 s2.2.1 [j3.1]) fun v5=>inlE (j3.1,v5,wr .i64 (s2.2.2.1+1),())) (inrE (some (s2.2.1,())))))
  (fun s=>s.2.2.1=s.2.1.length/\s.2.1.length<=n/\s.1=sq (s.2.1.length-1) x/\∀ i,i<s.2.1.length->nth 0 s.2.1 i=sq i x) (fun s=>n-s.2.1.length) (fun r=>r.1.length=n/\∀ i,i<n->nth 0 r.1 i=sq i x) (fun s ⟨i0,i1,i2,i3⟩=>by
   obtain⟨y,o,i,_⟩:=s
   dsimp only at *
   subst i0 i2
   by_cases hk:o.length<n
   ·left
    have key:(cnd (decide ((o.length:Int)>0)) (bnd (q04_Part (sq (o.length-1) x,sq (o.length-1) x,())) fun r4=>some (r4,())) (some (sq (o.length-1) x,())))=some (sq o.length x,()):=by
     have hr:=sq_range x x0 x1 (o.length-1)
     by_cases h0:o.length=0
     ·rw[h0];rfl
     ·rw[decide_eq_true (by omega),r_part _ _ hr.1 (by omega) hr.1 hr.2,show sq o.length x=tm (sq (o.length-1) x) (sq (o.length-1) x) by
       conv=>lhs;rw[show o.length=(o.length-1)+1 by omega]
       rfl]
      rfl
    rw[lt_true hk,cnd_t,key,bnd_mk,app_ok (by simp;omega),bnd_mk,wr_succ hk (by omega)]
    refine⟨_,rfl,⟨by simp,by simp;omega,by simp,fun j hj=>?_⟩,by simp;omega⟩
    simp at hj
    dsimp only
    by_cases hjo:j=o.length
    ·subst hjo;simp [nth,List.getD]
    ·rw[← i3 j (by omega)]
     simp [nth,List.getD,List.getElem?_append,show j<o.length by omega]
   ·right
    have hkn:o.length=n:=by omega
    refine⟨(o,()),by rw[hkn,lt_false];rfl,hkn,fun j hj=>i3 j (by omega)⟩) (x,[],0,()) ⟨by simp,by simp,by simp [sq],fun j hj=>by simp at hj⟩
 rw[e]
 exact⟨r.1,rfl,h1,h2⟩
theorem powF_zero(f:Nat) (x r:Int):powF f 0 x r=r:=by
 cases f<;>simp [powF]
theorem r_pow(x:Int) (n:Nat) (x0:0<=x) (x1:x<=4294967296) (hn:n<=1099511627776):q06_Of (x,(n:Int),())=some (powF 64 n x 4294967296):=by
 unfold q06_Of
 dsimp only
 obtain⟨⟨b,_⟩,e,b0,b1,b2⟩:=loop_rule (f:=(fun(s2:Int×Int×Unit)=>cnd (decide (s2.2.1>0)) (inlE (wr .i64 (s2.1+1),wr .i64 (Int.tdiv s2.2.1 2),())) (inrE (some (s2.1,())))))
  (fun s=>0<=s.1/\s.1<=41/\s.2.1=((n / 2 ^ s.1.toNat:Nat):Int)) (fun s=>s.2.1.toNat) (fun r=>0<=r.1/\r.1<=41/\n / 2 ^ r.1.toNat=0) (fun s ⟨i0,i1,i2⟩=>by
   obtain⟨b,m,_⟩:=s
   dsimp only at *
   obtain⟨b,rfl⟩:∃ k:Nat,b=k:=⟨b.toNat,by omega⟩
   rw[Int.toNat_natCast] at *
   subst i2
   have hle:n / 2 ^ b<=n:=Nat.div_le_self _ _
   have hb41:b=41->n / 2 ^ b=0:=fun h=>by subst h;exact Nat.div_eq_of_lt (by omega)
   generalize hy:n / 2 ^ b=y at *
   by_cases hm:(y:Int)>0
   ·left
    have hb:b<=40:=by
     by_cases hb:b<=40
     ·exact hb
     ·have:=hb41 (by omega)
      omega
    rw[decide_eq_true hm,cnd_t,Int.tdiv_eq_ediv_of_nonneg (by omega),wr_id (x:=(b:Int)+1) (by omega) (by omega)]
    rw[wr_id (by omega) (by omega)]
    refine⟨_,rfl,⟨by dsimp only;omega,by dsimp only;omega,?_⟩,by dsimp only;omega⟩
    dsimp only
    rw[show((b:Int)+1).toNat=b+1 by omega,Nat.pow_succ,← Nat.div_div_eq_div_mul,hy]
    omega
   ·right
    refine⟨((b:Int),()),by rw[decide_eq_false hm];rfl,i0,i1,?_⟩
    dsimp only
    rw[Int.toNat_natCast,hy]
    omega) (0,(n:Int),()) ⟨by simp,by simp,by simp⟩
 dsimp only at b0 b1 b2
 obtain⟨b,rfl⟩:∃ k:Nat,b=k:=⟨b.toNat,by omega⟩
 rw[Int.toNat_natCast] at b2
 obtain⟨l,e2,hl,hs⟩:=r_squares x x0 x1 b (by omega)
 rw[e,bnd_mk]
 dsimp only
 rw[e2,bnd_mk]
 obtain⟨⟨r,_⟩,e3,h3⟩:=loop_rule (f:=(fun(s5:Int×Int×Int×Unit)=>cnd (decide (s5.2.2.1<(l.length:Int))) (bnd (cnd (decide ((Int.tmod s5.1 2)=1)) (bnd (ati l s5.2.2.1) fun v7=>bnd (q04_Part (s5.2.1,v7,())) fun r8=>some (r8,())) (some (s5.2.1,()))) fun j6=>inlE (wr .i64 (Int.tdiv s5.1 2),j6.1,wr .i64 (s5.2.2.1+1),())) (inrE (some (s5.2.1,())))))
  (fun s=>0<=s.2.2.1/\s.2.2.1<=b/\s.1=((n / 2 ^ s.2.2.1.toNat:Nat):Int)/\0<=s.2.1/\s.2.1<=4294967296/\powF (64-s.2.2.1.toNat) (n / 2 ^ s.2.2.1.toNat) (sq s.2.2.1.toNat x) s.2.1=powF 64 n x 4294967296) (fun s=>b-s.2.2.1.toNat) (fun r=>r.1=powF 64 n x 4294967296) (fun s ⟨i0,i1,i2,i3,i4,i5⟩=>by
   obtain⟨m,r,i,_⟩:=s
   dsimp only at *
   obtain⟨i,rfl⟩:∃ k:Nat,i=k:=⟨i.toNat,by omega⟩
   rw[Int.toNat_natCast] at *
   subst i2
   have hq:=sq_range x x0 x1 i
   have hle:n / 2 ^ i<=n:=Nat.div_le_self _ _
   have hyb:i=b->n / 2 ^ i=0:=fun h=>by rw[h];exact b2
   generalize hy:n / 2 ^ i=y at *
   by_cases hi:i<b
   ·left
    rw[decide_eq_true (by omega:(i:Int)<(l.length:Int)),cnd_t,Int.tmod_eq_emod_of_nonneg (by omega),Int.tdiv_eq_ediv_of_nonneg (by omega),wr_id (x:=(y:Int) / 2) (by omega) (by omega),wr_id (x:=(i:Int)+1) (by omega) (by omega),ati_d 0 (by omega),hs i hi,bnd_mk,r_part r (sq i x) i3 (by omega) hq.1 hq.2]
    have key:(cnd (decide ((y:Int) % 2=1)) (bnd (some (tm r (sq i x))) fun r8=>some (r8,())) (some (r,())))=some (if y % 2=1 then tm r (sq i x) else r,()):=by
     by_cases hb:y % 2=1
     ·rw[decide_eq_true (by omega),if_pos hb];rfl
     ·rw[decide_eq_false (by omega),if_neg hb];rfl
    rw[key,bnd_mk]
    have ht:=tm_range i3 i4 hq.1 hq.2
    refine⟨_,rfl,⟨by dsimp only;omega,by dsimp only;omega,?_,?_,?_,?_⟩,by dsimp only;omega⟩
    ·dsimp only
     rw[show((i:Int)+1).toNat=i+1 by omega,Nat.pow_succ,← Nat.div_div_eq_div_mul,hy];omega
    ·dsimp only;split<;>omega
    ·dsimp only;split<;>omega
    ·dsimp only
     rw[show((i:Int)+1).toNat=i+1 by omega,Nat.pow_succ,← Nat.div_div_eq_div_mul,hy,← i5,show 64-i=(64-(i+1))+1 by omega]
     simp only[powF]
     by_cases hz:y=0
     ·rw[if_pos hz,hz]
      simp [powF_zero]
     ·rw[if_neg hz]
      rfl
   ·right
    have hib:i=b:=by omega
    subst hib
    refine⟨(r,()),by rw[decide_eq_false (by omega)];rfl,?_⟩
    rw[hyb rfl,powF_zero] at i5
    exact i5) ((n:Int),4294967296,0,()) ⟨by simp,by simp,by simp,by simp,by simp,by simp [sq]⟩
 rw[e3,bnd_mk]
 dsimp only at h3
 rw[h3]
end Go.Proofs.YtmomjjgokeffnaaGreat.F
