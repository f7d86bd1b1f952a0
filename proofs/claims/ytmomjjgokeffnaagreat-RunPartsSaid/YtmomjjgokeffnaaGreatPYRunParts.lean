/- Pieces of schedules: which piece has a step, and its value: the program's and the reference's. -/
import Derived.Test.YtmomjjgokeffnaaGreatPWRunParts
import Derived.Test.YtmomjjgokeffnaaGreatPVRunParts
set_option linter.unusedVariables false
set_option linter.unusedSimpArgs false
namespace Go.Proofs.YtmomjjgokeffnaaGreat.F
open Go.VX
open Classical
theorem seg_to(l:List SegD) (h:SegsOk l):∀ j i:Nat,i<j->j<l.length->(nth zSeg l i).2.1<=(nth zSeg l j).1
 | 0,i,hi,_=>by omega
 | j+1,i,hi,hj=>by
  have h1:=h (j+1) hj
  have h2:=h1.2 (by omega)
  rw[Nat.add_sub_cancel] at h2
  by_cases e:i=j
  ·subst e;omega
  ·have:=seg_to l h j i (by omega) (by omega)
   have h3:=(h j (by omega)).1
   unfold SegOk at h3
   omega
def HasStep(l:List SegD) (step:Int) (i:Nat):Prop:=i<l.length/\(nth zSeg l i).1<=step/\step<(nth zSeg l i).2.1
theorem has_one(l:List SegD) (h:SegsOk l) (step:Int) (i j:Nat) (hi:HasStep l step i) (hj:HasStep l step j):i=j:=by
 unfold HasStep at hi hj
 rcases Nat.lt_trichotomy i j with k | k | k
 ·have:=seg_to l h j i k hj.1;omega
 ·exact k
 ·have:=seg_to l h i j k hi.1;omega
theorem r_find(l:List SegD) (step:Int) (hl:l.length<=9223372036854775807):∃ r,q24_Find (l,step,())=some r/\((∃ i:Nat,r=i/\HasStep l step i)\/(r=-1/\∀ i,¬ HasStep l step i)):=by
 unfold q24_Find
 dsimp only
 obtain⟨r,e,h⟩:=loop_rule (ρ:=Unit ⊕ Int) (f:=(fun(s2:Int×Unit)=>cnd (decide (s2.1<(l.length:Int))) (bnd (ati l s2.1) fun v3=>bnd (cnd (decide (step>=v3.1)) (bnd (ati l s2.1) fun v4=>some (decide (step<v4.2.1))) (some false)) fun j5=>cnd j5 (inrE (inrE (some s2.1))) (inlE (wr .i64 (s2.1+1),()))) (inrE (inlE (())))))
  (fun s=>0<=s.1/\s.1<=l.length/\∀ j:Nat,j<s.1.toNat->¬ HasStep l step j) (fun s=>l.length-s.1.toNat) (fun r=>(∃ i:Nat,r=.inr (i:Int)/\HasStep l step i)\/(r=.inl ()/\∀ i,¬ HasStep l step i)) (fun s ⟨i0,i1,i2⟩=>by
   obtain⟨i,_⟩:=s
   dsimp only at *
   obtain⟨k,rfl⟩:∃ k:Nat,i=k:=⟨i.toNat,by omega⟩
   by_cases hk:k<l.length
   ·rw[lt_true hk,cnd_t,ati_d zSeg hk,bnd_mk,wr_succ hk hl]
    by_cases h1:(nth zSeg l k).1<=step
    ·by_cases h2:step<(nth zSeg l k).2.1
     ·right
      exact⟨_,by rw[decide_eq_true (show step>=(nth zSeg l k).1 from h1),cnd_t,bnd_mk,decide_eq_true h2];rfl,.inl ⟨k,rfl,hk,h1,h2⟩⟩
     ·left
      refine⟨_,by rw[decide_eq_true (show step>=(nth zSeg l k).1 from h1),cnd_t,bnd_mk,decide_eq_false h2];rfl,⟨by dsimp only;omega,by dsimp only;omega,fun j hj hh=>?_⟩,by dsimp only;omega⟩
      dsimp only at hj
      by_cases hjk:j=k
      ·subst hjk;exact h2 hh.2.2
      ·exact i2 j (by omega) hh
    ·left
     refine⟨_,by rw[decide_eq_false (show ¬ step>=(nth zSeg l k).1 from h1)];rfl,⟨by dsimp only;omega,by dsimp only;omega,fun j hj hh=>?_⟩,by dsimp only;omega⟩
     dsimp only at hj
     by_cases hjk:j=k
     ·subst hjk;exact h1 hh.2.1
     ·exact i2 j (by omega) hh
   ·right
    have hkn:k=l.length:=by omega
    subst hkn
    rw[lt_false,cnd_f]
    exact⟨_,rfl,.inr ⟨rfl,fun j hj=>i2 j (by rw[Int.toNat_natCast];exact hj.1) hj⟩⟩) (0,()) ⟨Int.le_refl _,by dsimp only;omega,fun j hj=>by simp at hj⟩
 rw[e]
 rcases h with⟨i,rfl,h⟩ | ⟨rfl,h⟩
 ·exact⟨i,rfl,.inl ⟨i,rfl,h⟩⟩
 ·exact⟨-1,rfl,.inr ⟨rfl,h⟩⟩
theorem cmp3_int(x y:Int):cmp_Compare_int (x,y,())=some (if x<y then -1 else if y<x then 1 else 0):=by
 unfold cmp_Compare_int cmp_isNaN_int
 simp only[bnd_mk,cnd_if,ite_some,decide_true,Bool.not_true,Bool.false_eq_true,if_false,decide_eq_true_eq]
theorem search(l:List SegD) (step:Int) (hs:SegsOk l) (hl:l.length<=4611686018427387903) :
  ∃ (lo:Nat) (b:Bool),slices_BinarySearchFunc_Seg_int (l,step,(fun a1=>bnd (segs_find_1 a1) some),())=some ((lo:Int),b,())/\lo<=l.length/\(∀ j,j<lo->(nth zSeg l j).1<step)/\(∀ j,lo<=j->j<l.length->step<=(nth zSeg l j).1) /\
   (b=true↔lo<l.length/\(nth zSeg l lo).1=step):=by
 have hf:∀ v:SegD,bnd (segs_find_1 (v,step,())) some=some (if v.1<step then -1 else if step<v.1 then 1 else 0):=fun v=>by
  unfold segs_find_1
  dsimp only
  rw[cmp3_int]
  rfl
 have up:∀ i j:Nat,i<j->j<l.length->(nth zSeg l i).1<(nth zSeg l j).1:=fun i j h1 h2=>by
  have k1:=seg_to l hs j i h1 h2
  have k2:=(hs i (by omega)).1
  unfold SegOk at k2
  omega
 unfold slices_BinarySearchFunc_Seg_int
 dsimp only
 obtain⟨r,e,h⟩:=loop_rule (ρ:=Int×Unit) (f:=(fun(s2:Int×Int×Unit)=>cnd (decide (s2.1<s2.2.1)) (bnd (ati l (wr .i64 (Int.fdiv (wr .u64 (wr .i64 (s2.1+s2.2.1))) (2 ^ 1)))) fun v3=>bnd (bnd (segs_find_1 (v3,step,())) some) fun r4=>bnd (cnd (decide (r4<0)) (some (wr .i64 ((wr .i64 (Int.fdiv (wr .u64 (wr .i64 (s2.1+s2.2.1))) (2 ^ 1)))+1),s2.2.1,())) (some (s2.1,wr .i64 (Int.fdiv (wr .u64 (wr .i64 (s2.1+s2.2.1))) (2 ^ 1)),()))) fun j5=>inlE (j5.1,j5.2.1,())) (inrE (some (s2.1,())))))
  (fun s=>0<=s.1/\s.1<=s.2.1/\s.2.1<=l.length/\(∀ j:Nat,j<s.1.toNat->(nth zSeg l j).1<step)/\(∀ j:Nat,s.2.1.toNat<=j->j<l.length->step<=(nth zSeg l j).1)) (fun s=>(s.2.1-s.1).toNat)
  (fun r=>∃ lo:Nat,r=((lo:Int),())/\lo<=l.length/\(∀ j,j<lo->(nth zSeg l j).1<step)/\(∀ j,lo<=j->j<l.length->step<=(nth zSeg l j).1)) (fun s ⟨i0,i1,i2,i3,i4⟩=>by
   obtain⟨lo,hi,_⟩:=s
   dsimp only at *
   obtain⟨a,rfl⟩:∃ k:Nat,lo=k:=⟨lo.toNat,by omega⟩
   obtain⟨b,rfl⟩:∃ k:Nat,hi=k:=⟨hi.toNat,by omega⟩
   rw[Int.toNat_natCast] at i3 i4
   by_cases hab:a<b
   ·left
    have hm:wr .i64 (Int.fdiv (wr .u64 (wr .i64 ((a:Int)+(b:Int)))) (2 ^ 1))=(((a+b) / 2:Nat):Int):=by
     rw[wr_id (x:=(a:Int)+(b:Int)) (by omega) (by omega),wru_id (by omega) (by omega),show((2:Int) ^ 1)=2 from rfl,fdiv_pos 2 (by omega),wr_id (by omega) (by omega)]
     omega
    have hlt:(a+b) / 2<l.length:=by omega
    rw[hm,decide_eq_true (by omega:(a:Int)<(b:Int)),cnd_t,ati_d zSeg hlt,bnd_mk,hf,bnd_mk]
    by_cases hc:(nth zSeg l ((a+b) / 2)).1<step
    ·rw[if_pos hc,wr_id (x:=(((a+b) / 2:Nat):Int)+1) (by omega) (by omega)]
     refine⟨((((a+b) / 2:Nat):Int)+1,(b:Int),()),rfl,⟨by dsimp only;omega,by dsimp only;omega,by dsimp only;omega,fun j hj=>?_,fun j hj=>i4 j (by dsimp only at hj;omega)⟩,by dsimp only;omega⟩
     dsimp only at hj
     by_cases hje:j=(a+b) / 2
     ·rw[hje];exact hc
     ·have:=up j ((a+b) / 2) (by omega) hlt
      omega
    ·have hn:¬ ((if step<(nth zSeg l ((a+b) / 2)).1 then(1:Int) else 0)<0):=by split<;>omega
     rw[if_neg hc,decide_eq_false hn]
     refine⟨((a:Int),(((a+b) / 2:Nat):Int),()),rfl,⟨by dsimp only;omega,by dsimp only;omega,by dsimp only;omega,fun j hj=>i3 j (by dsimp only at hj;omega),fun j hj hj2=>?_⟩,by dsimp only;omega⟩
     dsimp only at hj
     by_cases hje:j=(a+b) / 2
     ·rw[hje];omega
     ·have:=up ((a+b) / 2) j (by omega) hj2
      omega
   ·right
    have:a=b:=by omega
    subst this
    rw[decide_eq_false (by omega:¬ (a:Int)<(a:Int)),cnd_f]
    exact⟨_,rfl,a,rfl,by omega,i3,i4⟩) (0,(l.length:Int),()) ⟨by dsimp only;omega,by dsimp only;omega,by dsimp only;omega,fun j hj=>by simp at hj,fun j hj hj2=>by dsimp only at hj;omega⟩
 rw[e,bnd_mk]
 obtain⟨lo,rfl,h1,h2,h3⟩:=h
 dsimp only
 by_cases hlo:lo<l.length
 ·rw[lt_true hlo,cnd_t,ati_d zSeg hlo,bnd_mk,hf,bnd_mk,bnd_mk]
  refine⟨lo,_,rfl,h1,h2,h3,?_⟩
  rw[decide_eq_true_eq]
  constructor
  ·intro k
   refine⟨hlo,?_⟩
   split at k
   ·omega
   ·split at k<;>omega
  ·intro k
   rw[k.2,if_neg (by omega),if_neg (by omega)]
 ·have:lo=l.length:=by omega
  subst this
  rw[lt_false,cnd_f,bnd_mk]
  refine⟨_,_,rfl,h1,h2,h3,?_⟩
  simp
theorem p_find(l:List SegD) (step:Int) (hs:SegsOk l) (hl:l.length<=4611686018427387903):∃ r,segs_find (l,step,())=some r/\((∃ i:Nat,r=i/\HasStep l step i)\/(r=-1/\∀ i,¬ HasStep l step i)):=by
 obtain⟨lo,b,e,h1,h2,h3,h4⟩:=search l step hs hl
 unfold segs_find
 dsimp only
 rw[e,bnd_mk]
 dsimp only
 have up:∀ i j:Nat,i<j->j<l.length->(nth zSeg l i).1<(nth zSeg l j).1:=fun i j h1 h2=>by
  have k1:=seg_to l hs j i h1 h2
  have k2:=(hs i (by omega)).1
  unfold SegOk at k2
  omega
 cases b with
 | true =>
  obtain⟨g1,g2⟩:=h4.1 rfl
  have k2:=(hs lo g1).1
  unfold SegOk at k2
  rw[Bool.not_true,cnd_f,bnd_mk]
  dsimp only
  rw[decide_eq_false (by omega:¬ (lo:Int)<0),Bool.not_false,cnd_t,ati_d zSeg g1,bnd_mk,bnd_mk,decide_eq_false (by omega:¬ step>=(nth zSeg l lo).2.1)]
  exact⟨_,rfl,.inl ⟨lo,rfl,g1,by omega,by omega⟩⟩
 | false =>
  have hne:∀ j,lo<=j->j<l.length->step<(nth zSeg l j).1:=fun j hj hj2=>by
   have k1:=h3 j hj hj2
   by_cases e:j=lo
   ·subst e
    have:¬ (nth zSeg l j).1=step:=fun k=>(Bool.false_ne_true (h4.2 ⟨hj2,k⟩)).elim
    omega
   ·have:=up lo j (by omega) hj2
    have:=h3 lo (by omega) (by omega)
    omega
  rw[Bool.not_false,cnd_t,bnd_mk,wr_id (x:=(lo:Int)-1) (by omega) (by omega)]
  dsimp only
  by_cases h0:lo=0
  ·rw[decide_eq_true (by omega:(lo:Int)-1<0)]
   refine⟨_,rfl,.inr ⟨rfl,fun i hi=>?_⟩⟩
   have:=hne i (by omega) hi.1
   unfold HasStep at hi
   omega
  ·have hlt:lo-1<l.length:=by omega
   rw[decide_eq_false (by omega:¬ (lo:Int)-1<0),Bool.not_false,cnd_t,show(lo:Int)-1=((lo-1:Nat):Int) by omega,ati_d zSeg hlt,bnd_mk,bnd_mk]
   have k1:=h2 (lo-1) (by omega)
   by_cases hto:step<(nth zSeg l (lo-1)).2.1
   ·rw[decide_eq_false (by omega:¬ step>=(nth zSeg l (lo-1)).2.1)]
    exact⟨_,rfl,.inl ⟨lo-1,rfl,hlt,by omega,hto⟩⟩
   ·rw[decide_eq_true (by omega:step>=(nth zSeg l (lo-1)).2.1)]
    refine⟨_,rfl,.inr ⟨rfl,fun i hi=>?_⟩⟩
    unfold HasStep at hi
    by_cases h5:lo<=i
    ·have:=hne i h5 hi.1;omega
    ·by_cases h6:i=lo-1
     ·subst h6;omega
     ·have:=seg_to l hs (lo-1) i (by omega) hlt
      have k2:=(hs (lo-1) hlt).1
      unfold SegOk at k2
      omega
theorem finds(l:List SegD) (step:Int) (hs:SegsOk l) (hl:l.length<=4611686018427387903):∃ r,segs_find (l,step,())=some r/\q24_Find (l,step,())=some r/\((∃ i:Nat,r=i/\HasStep l step i)\/(r=-1/\∀ i,¬ HasStep l step i)):=by
 obtain⟨r,e,h⟩:=p_find l step hs hl
 obtain⟨r',e',h'⟩:=r_find l step (by omega)
 refine⟨r,e,?_,h⟩
 rcases h with⟨i,rfl,h⟩ | ⟨rfl,h⟩<;>rcases h' with⟨i',rfl,h'⟩ | ⟨rfl,h'⟩
 ·rw[e',has_one l hs step i' i h' h]
 ·exact(h' i h).elim
 ·exact(h i' h').elim
 ·exact e'
def cy(F t:Int):Nat->Int×Int
 | 0=>(0,F)
 | n+1=>((cy F t n).2,(cy F t n).2+(if t*((cy F t n).2-(cy F t n).1)>1048576 then 1048576 else t*((cy F t n).2-(cy F t n).1)))
theorem cy_spec(F t:Int) (hF:1<=F) (hF2:F<=1048576) (ht:1<=t):∀ n,0<=(cy F t n).1/\1<=(cy F t n).2-(cy F t n).1/\(cy F t n).2-(cy F t n).1<=1048576/\(n:Int)<(cy F t n).2
 | 0=>by simp only[cy];omega
 | n+1=>by
  have h:=cy_spec F t hF hF2 ht n
  simp only[cy]
  generalize (cy F t n).1=a at *
  generalize (cy F t n).2=b at *
  have h1:1*(b-a)<=t*(b-a):=Int.mul_le_mul_of_nonneg_right ht (by omega)
  generalize t*(b-a)=m at *
  split<;>omega
theorem cy_one(F:Int) (hF:1<=F) (hF2:F<=1048576):∀ n:Nat,cy F 1 n=(n*F,n*F+F)
 | 0=>by simp [cy]
 | n+1=>by
  simp only[cy,cy_one F hF hF2 n]
  have e:((n+1:Nat):Int)*F=n*F+F:=by grind
  rw[e]
  generalize (n:Int)*F=m
  rw[if_neg (by omega)]
  congr 1
  omega
def IsCy(F t at':Int) (n:Nat):Prop:=at'<(cy F t n).2/\∀ m,m<n->(cy F t m).2<=at'
theorem isCy_one{F t at':Int} {n m:Nat} (hn:IsCy F t at' n) (hm:IsCy F t at' m):n=m:=by
 rcases Nat.lt_trichotomy n m with k | k | k
 ·have:=hm.2 n k;have:=hn.1;omega
 ·exact k
 ·have:=hn.2 m k;have:=hm.1;omega
theorem cy_in{F t at':Int} {n:Nat} (hn:IsCy F t at' n) (h0:0<=at'):(cy F t n).1<=at':=by
 cases n with
 | zero=>simpa [cy] using h0
 | succ n=>simpa [cy] using hn.2 n (by omega)
theorem r_cycle(F t at':Int) (hF:1<=F) (hF2:F<=1048576) (ht:1<=t) (ht2:t<=16) (h0:0<=at') (h1:at'<=1048576):∃ n:Nat,q23_Find (F,t,at',())=some (((cy F t n).1,(cy F t n).2,()),(n:Int),())/\IsCy F t at' n:=by
 unfold q23_Find
 dsimp only
 obtain⟨r,e,h⟩:=loop_rule (ρ:=Int×(Int×(Int×Unit))×Unit) (f:=(fun(s2:Int×(Int×(Int×Unit))×Unit)=>bnd (cnd (decide (s2.1<=1048576)) (some (decide (s2.2.1.2.1<=at'))) (some false)) fun j3=>cnd j3 (bnd (q23_Next (s2.2.1,t,())) fun r4=>inlE (wr .i64 (s2.1+1),r4,())) (inrE (some (s2.1,s2.2.1,())))))
  (fun s=>∃ n:Nat,s=((n:Int),((cy F t n).1,(cy F t n).2,()),())/\n<=1048576/\∀ m,m<n->(cy F t m).2<=at') (fun s=>1048577-s.1.toNat) (fun r=>∃ n:Nat,r=((n:Int),((cy F t n).1,(cy F t n).2,()),())/\IsCy F t at' n) (fun s ⟨n,hs,hn,hm⟩=>by
   subst hs
   dsimp only
   have hc:=cy_spec F t hF hF2 ht n
   have hc1:=cy_spec F t hF hF2 ht (n+1)
   rw[decide_eq_true (by omega:(n:Int)<=1048576),cnd_t,bnd_mk]
   by_cases hto:(cy F t n).2<=at'
   ·left
    have hb1:t*((cy F t n).2-(cy F t n).1)<=16*((cy F t n).2-(cy F t n).1):=Int.mul_le_mul_of_nonneg_right ht2 (by omega)
    have hb2:1*((cy F t n).2-(cy F t n).1)<=t*((cy F t n).2-(cy F t n).1):=Int.mul_le_mul_of_nonneg_right ht (by omega)
    have hnx:q23_Next (((cy F t n).1,(cy F t n).2,()),t,())=some ((cy F t (n+1)).1,(cy F t (n+1)).2,()):=by
     unfold q23_Next
     dsimp only
     rw[wr_id (x:=(cy F t n).2-(cy F t n).1) (by omega) (by omega)]
     simp only[cy]
     generalize t*((cy F t n).2-(cy F t n).1)=m at *
     rw[wr_id (x:=m) (by omega) (by omega)]
     by_cases hmm:m>1048576
     ·rw[decide_eq_true hmm,if_pos hmm,cnd_t,bnd_mk,wr_id (by omega) (by omega)]
     ·rw[decide_eq_false hmm,if_neg hmm,cnd_f,bnd_mk,wr_id (by omega) (by omega)]
    rw[decide_eq_true hto,cnd_t,hnx,bnd_mk,wr_id (x:=(n:Int)+1) (by omega) (by omega)]
    refine⟨_,rfl,⟨n+1,rfl,by omega,fun m hm2=>?_⟩,by dsimp only;omega⟩
    by_cases e:m=n
    ·subst e;exact hto
    ·exact hm m (by omega)
   ·right
    rw[decide_eq_false hto,cnd_f]
    exact⟨_,rfl,n,rfl,by omega,hm⟩) (0,(0,F,()),()) ⟨0,rfl,by omega,fun m hm=>by omega⟩
 rw[e,bnd_mk]
 obtain⟨n,rfl,h⟩:=h
 exact⟨n,rfl,h⟩
theorem p_cycle(F t at':Int) (hF:1<=F) (hF2:F<=1048576) (ht:1<=t) (ht2:t<=16) (h0:0<=at') (h1:at'<=1048576):∃ n:Nat,cycle_Find (F,t,at',())=some (((cy F t n).1,(cy F t n).2,()),(n:Int),0,())/\IsCy F t at' n:=by
 obtain⟨n,e,hn⟩:∃ n:Nat,cycle_find (F,t,at',())=some (((cy F t n).1,(cy F t n).2,()),(n:Int),())/\IsCy F t at' n:=by
  unfold cycle_find
  dsimp only
  by_cases h:t=1
  ·subst h
   rw[decide_eq_true rfl,cnd_t]
   obtain⟨a,rfl⟩:∃ k:Nat,at'=k:=⟨at'.toNat,by omega⟩
   obtain⟨f,rfl⟩:∃ k:Nat,F=k:=⟨F.toNat,by omega⟩
   have hd:=Nat.div_add_mod a f
   have hmod:a % f<f:=Nat.mod_lt _ (by omega)
   have hle:a / f<=a:=Nat.div_le_self _ _
   have hd2:(a:Int) / (f:Int)=((a / f:Nat):Int):=rfl
   generalize a / f=k at *
   have hq:quoI .i64 (a:Int) (f:Int)=some (k:Int):=by
    unfold quoI
    rw[if_neg (by omega),Int.tdiv_eq_ediv_of_nonneg (by omega),hd2]
    show some (wr .i64 _)=_
    rw[wr_id (x:=(k:Int)) (by omega) (by omega)]
   rw[hq,bnd_mk]
   have hmul:(k:Int)*(f:Int)=((f*k:Nat):Int):=by rw[Int.natCast_mul,Int.mul_comm]
   refine⟨k,?_,?_,fun m hm=>?_⟩
   ·rw[cy_one _ hF hF2,hmul]
    generalize f*k=z at *
    rw[wr_id (x:=(z:Int)) (by omega) (by omega),wr_id (by omega) (by omega)]
   ·rw[cy_one _ hF hF2,hmul]
    generalize f*k=z at *
    dsimp only
    omega
   ·rw[cy_one _ hF hF2]
    have h2:f*(m+1)<=f*k:=Nat.mul_le_mul_left _ hm
    have h3:(m:Int)*(f:Int)+(f:Int)=((f*(m+1):Nat):Int):=by rw[Int.natCast_mul];grind
    dsimp only
    rw[h3]
    generalize f*(m+1)=y at *
    generalize f*k=z at *
    omega
  ·rw[decide_eq_false h,cnd_f]
   obtain⟨r,e,h⟩:=loop_rule (ρ:=Int×(Int×(Int×Unit))×Unit) (f:=(fun(s3:Int×(Int×(Int×Unit))×Unit)=>cnd (decide (s3.2.1.2.1<=at')) (bnd (cycle_next (s3.2.1,t,())) fun r4=>inlE (wr .i64 (s3.1+1),r4,())) (inrE (some (s3.1,s3.2.1,())))))
    (fun s=>∃ n:Nat,s=((n:Int),((cy F t n).1,(cy F t n).2,()),())/\n<=1048576/\∀ m,m<n->(cy F t m).2<=at') (fun s=>1048577-s.1.toNat) (fun r=>∃ n:Nat,r=((n:Int),((cy F t n).1,(cy F t n).2,()),())/\IsCy F t at' n) (fun s ⟨n,hs,hn,hm⟩=>by
     subst hs
     dsimp only
     have hc:=cy_spec F t hF hF2 ht n
     have hc1:=cy_spec F t hF hF2 ht (n+1)
     by_cases hto:(cy F t n).2<=at'
     ·left
      have hb1:t*((cy F t n).2-(cy F t n).1)<=16*((cy F t n).2-(cy F t n).1):=Int.mul_le_mul_of_nonneg_right ht2 (by omega)
      have hb2:1*((cy F t n).2-(cy F t n).1)<=t*((cy F t n).2-(cy F t n).1):=Int.mul_le_mul_of_nonneg_right ht (by omega)
      have hnx:cycle_next (((cy F t n).1,(cy F t n).2,()),t,())=some ((cy F t (n+1)).1,(cy F t (n+1)).2,()):=by
       unfold cycle_next
       dsimp only
       rw[wr_id (x:=(cy F t n).2-(cy F t n).1) (by omega) (by omega),Int.mul_comm _ t]
       simp only[cy,minL]
       generalize t*((cy F t n).2-(cy F t n).1)=m at *
       rw[wr_id (x:=m) (by omega) (by omega)]
       by_cases hmm:m>1048576
       ·rw[if_pos hmm,wr_id (by omega) (by omega)]
       ·rw[if_neg hmm,wr_id (by omega) (by omega)]
      rw[decide_eq_true hto,cnd_t,hnx,bnd_mk,wr_id (x:=(n:Int)+1) (by omega) (by omega)]
      refine⟨_,rfl,⟨n+1,rfl,by omega,fun m hm2=>?_⟩,by dsimp only;omega⟩
      by_cases e:m=n
      ·subst e;exact hto
      ·exact hm m (by omega)
     ·right
      rw[decide_eq_false hto,cnd_f]
      exact⟨_,rfl,n,rfl,by omega,hm⟩) (0,(0,F,()),()) ⟨0,rfl,by omega,fun m hm=>by omega⟩
   rw[e,bnd_mk]
   obtain⟨n,rfl,h⟩:=h
   exact⟨n,rfl,h⟩
 refine⟨n,?_,hn⟩
 unfold cycle_Find cycle_may cycle_within
 dsimp only
 rw[e,decide_eq_true (show F>=1 from hF),decide_eq_true hF2,decide_eq_true (show t>=1 from ht),decide_eq_true ht2,decide_eq_true (show at'>=0 from h0),decide_eq_true h1]
 rfl
theorem value_ok(s:SegD) (step:Int) (hs:SegOk s) (h0:s.1<=step) (h1:step<s.2.1):∃ v,segs_value (s,step,())=some (v,0,())/\q24_Value (s,step,())=some v/\(BoundsS s.2.2.2.2.1).1<=v/\v<=(BoundsS s.2.2.2.2.1).2.1:=by
 have hs':=hs
 unfold SegOk at hs'
 unfold segs_value q24_Value
 dsimp only
 obtain⟨g1,g2,g3,g4,g5,g6,g7⟩:=hs'
 rw[wr_id (x:=step-s.2.2.1) (by omega) (by omega)]
 by_cases hf:s.2.2.2.2.2.1=0
 ·have hn:s.2.1-s.2.2.1<=s.2.2.2.1/\s.2.2.2.1<=1048576:=by omega
  rw[decide_eq_true hf,cnd_t,cnd_t,p_atS _ _ _ g6 (by omega) (by omega) (by omega) (by omega),r_atS _ _ _ g6 (by omega) (by omega) (by omega) (by omega)]
  exact⟨_,rfl,rfl,curveS_in _ _ _ g6 (by omega) (by omega) (by omega)⟩
 ·rw[decide_eq_false hf,cnd_f,cnd_f]
  obtain⟨n,e1,k1⟩:=p_cycle s.2.2.2.2.2.1 s.2.2.2.2.2.2.1 (step-s.2.2.1) (by omega) (by omega) (by omega) (by omega) (by omega) (by omega)
  obtain⟨n',e2,k2⟩:=r_cycle s.2.2.2.2.2.1 s.2.2.2.2.2.2.1 (step-s.2.2.1) (by omega) (by omega) (by omega) (by omega) (by omega) (by omega)
  have:=isCy_one k2 k1
  subst this
  rw[e1,e2,bnd_mk,bnd_mk]
  dsimp only
  have hc:=cy_spec s.2.2.2.2.2.1 s.2.2.2.2.2.2.1 (by omega) (by omega) (by omega) n'
  have hi:=cy_in k1 (by omega)
  have hj:=k1.1
  rw[wr_id (x:=step-s.2.2.1-_) (by omega) (by omega),wr_id (by omega) (by omega),p_atS _ _ _ g6 (by omega) (by omega) (by omega) (by omega),r_atS _ _ _ g6 (by omega) (by omega) (by omega) (by omega)]
  exact⟨_,rfl,rfl,curveS_in _ _ _ g6 (by omega) (by omega) (by omega)⟩
theorem p_segat(l:List SegD) (step:Int) (hs:SegsOk l) (hl0:0<l.length) (hl:l.length<=4611686018427387903) :
  (∃ (i:Nat) (v:Int),HasStep l step i/\segs_At (l,step,())=some (v,0,())/\segs_find (l,step,())=some (i:Int)/\q24_Find (l,step,())=some (i:Int)/\q24_Value (nth zSeg l i,step,())=some v/\(BoundsS (nth zSeg l i).2.2.2.2.1).1<=v/\v<=(BoundsS (nth zSeg l i).2.2.2.2.1).2.1) \/
  ((∀ i,¬ HasStep l step i)/\segs_At (l,step,())=some (0,8,())/\segs_find (l,step,())=some (-1)/\q24_Find (l,step,())=some (-1)):=by
 obtain⟨r,e1,e2,h⟩:=finds l step hs hl
 unfold segs_At
 dsimp only
 rw[p_segs l (by omega),if_pos ⟨hs,hl0⟩,bnd_mk,decide_eq_true rfl,Bool.not_true,cnd_f,e1,bnd_mk]
 rcases h with⟨i,rfl,h⟩ | ⟨rfl,h⟩
 ·left
  obtain⟨v,f1,f2,f3⟩:=value_ok (nth zSeg l i) step (hs i h.1).1 h.2.1 h.2.2
  refine⟨i,v,h,?_,rfl,e2,f2,f3⟩
  rw[decide_eq_false (by omega:¬ (i:Int)<0),cnd_f,ati_d zSeg h.1,bnd_mk,f1,bnd_mk]
 ·right
  exact⟨h,rfl,rfl,e2⟩
end Go.Proofs.YtmomjjgokeffnaaGreat.F
