/- Digits: times, powers of two, the lowest bits, odd. -/
import Derived.Test.YtmomjjgokeffnaaGreatPBRunParts
set_option linter.unusedVariables false
set_option linter.unusedSimpArgs false
namespace Go.Proofs.YtmomjjgokeffnaaGreat.F
open Go.VX
theorem nth_set_ne{a:List Int} {i j:Nat} (h:i≠j) (d:Int):nth 0 (a.set i d) j=nth 0 a j:=by
 simp [nth,List.getD,h]
theorem v_set:∀ (a:List Int) (i:Nat) (d:Int),i<a.length->V (a.set i d)=V a+65536 ^ i*(d-nth 0 a i)
 | [],i,d,h=>by simp at h
 | x::a,0,d,h=>by simp [V,nth,List.getD];omega
 | x::a,i+1,d,h=>by
  have:=v_set a i d (by simp at h;omega)
  have e:nth 0 (x::a) (i+1)=nth 0 a i:=by simp [nth,List.getD]
  simp only[List.set_cons_succ,V,this,e]
  rw[Int.pow_succ]
  grind
theorem dig_set{a:List Int} (h:Dig a) (i:Nat) {d:Int} (hd:0<=d/\d<65536):Dig (a.set i d):=fun x hx=>by
 rcases List.mem_or_eq_of_mem_set hx with h1 | rfl
 ·exact h x h1
 ·exact hd
theorem v_take_succ(a:List Int) (i:Nat):V (a.take (i+1))=V (a.take i)+65536 ^ i*nth 0 a i:=by
 by_cases hi:i<a.length
 ·rw[List.take_succ_eq_append_getElem hi,v_app,List.length_take,Nat.min_eq_left (by omega)]
  simp [V,nth,List.getD,hi]
 ·rw[List.take_of_length_le (by omega),List.take_of_length_le (by omega)]
  simp [nth,List.getD,hi]
theorem v_rep(n:Nat):V (List.replicate n 0)=0:=by
 induction n with
 | zero=>rfl
 | succ n ih=>simp [List.replicate_succ,V,ih]
theorem times(a b:List Int) (ha:Dig a) (hb:Dig b) (la:a.length<=1000000) (lb:b.length<=1000000) :
  ∃ l,q02_Times (a,b,())=some l/\Dig l/\V l=V a*V b/\l.length=a.length+b.length:=by
 unfold q02_Times
 dsimp only
 have hn:mkN 17592186044416 (wr .i64 ((a.length:Int)+(b.length:Int))) (0:Int)=some (List.replicate (a.length+b.length) 0):=by
  rw[wr_id (by omega) (by omega)]
  simp only[mkN]
  rw[if_pos (by omega),show((a.length:Int)+(b.length:Int)).toNat=a.length+b.length by omega]
 rw[hn,bnd_mk,List.length_replicate]
 obtain⟨r,e,h1,h2,h3⟩:=loop_rule (f:=(fun(s3:Int×List (Int)×Unit)=>cnd (decide (s3.1<(a.length:Int))) (bnd (loopP (fun(s5:Int×Int×List (Int)×Unit)=>cnd (decide (s5.2.1<(b.length:Int))) (bnd (inR (a.length+b.length) (wr .i64 (s3.1+s5.2.1))) fun v6=>bnd (ati s5.2.2.1 v6) fun v7=>bnd (ati a s3.1) fun v8=>bnd (ati b s5.2.1) fun v9=>bnd (inR (a.length+b.length) (wr .i64 (s3.1+s5.2.1))) fun v10=>bnd (ati s5.2.2.1 v10) fun v11=>inlE (wr .u64 (Int.tdiv (wr .u64 ((wr .u64 (v7+(wr .u64 (v8*v9))))+s5.1)) 65536),wr .i64 (s5.2.1+1),List.set s5.2.2.1 (Int.toNat v10) (Int.tmod (wr .u64 ((wr .u64 (v7+(wr .u64 (v8*v9))))+s5.1)) 65536),())) (inrE (some (s5.1,s5.2.2.1,())))) (0,0,s3.2.1,())) fun j4=>bnd (inR (a.length+b.length) (wr .i64 (s3.1+(b.length:Int)))) fun v12=>bnd (ati j4.2.1 v12) fun v13=>bnd (inR (a.length+b.length) (wr .i64 (s3.1+(b.length:Int)))) fun v14=>bnd (ati j4.2.1 v14) fun v15=>inlE (wr .i64 (s3.1+1),List.set j4.2.1 (Int.toNat v14) (wr .u64 (v13+j4.1)),())) (inrE (some (s3.2.1,())))))
  (fun s=>0<=s.1/\s.1<=a.length/\Dig s.2.1/\s.2.1.length=a.length+b.length/\V s.2.1=V (a.take s.1.toNat)*V b/\∀ j,s.1.toNat+b.length<=j->nth 0 s.2.1 j=0) (fun s=>a.length-s.1.toNat) (fun r=>Dig r.1/\V r.1=V a*V b/\r.1.length=a.length+b.length) (fun s ⟨i0,i1,i2,i3,i4,i5⟩=>by
   obtain⟨i,o,_⟩:=s
   dsimp only at *
   obtain⟨k,rfl⟩:∃ k:Nat,i=k:=⟨i.toNat,by omega⟩
   rw[Int.toNat_natCast] at *
   by_cases hk:k<a.length
   ·left
    have dak:=nth_lt ha k
    obtain⟨⟨c,o',_⟩,e,g1,g2,g3,g4,g5,g6⟩:=loop_rule (f:=(fun(s5:Int×Int×List (Int)×Unit)=>cnd (decide (s5.2.1<(b.length:Int))) (bnd (inR (a.length+b.length) (wr .i64 ((k:Int)+s5.2.1))) fun v6=>bnd (ati s5.2.2.1 v6) fun v7=>bnd (ati a k) fun v8=>bnd (ati b s5.2.1) fun v9=>bnd (inR (a.length+b.length) (wr .i64 ((k:Int)+s5.2.1))) fun v10=>bnd (ati s5.2.2.1 v10) fun v11=>inlE (wr .u64 (Int.tdiv (wr .u64 ((wr .u64 (v7+(wr .u64 (v8*v9))))+s5.1)) 65536),wr .i64 (s5.2.1+1),List.set s5.2.2.1 (Int.toNat v10) (Int.tmod (wr .u64 ((wr .u64 (v7+(wr .u64 (v8*v9))))+s5.1)) 65536),())) (inrE (some (s5.1,s5.2.2.1,())))))
     (fun s=>0<=s.1/\s.1<65536/\0<=s.2.1/\s.2.1<=b.length/\Dig s.2.2.1/\s.2.2.1.length=a.length+b.length/\V s.2.2.1+65536 ^ (k+s.2.1.toNat)*s.1=V (a.take k)*V b+65536 ^ k*(nth 0 a k*V (b.take s.2.1.toNat))/\∀ j,k+b.length<=j->nth 0 s.2.2.1 j=0) (fun s=>b.length-s.2.1.toNat)
     (fun r=>0<=r.1/\r.1<65536/\Dig r.2.1/\r.2.1.length=a.length+b.length/\V r.2.1+65536 ^ (k+b.length)*r.1=V (a.take k)*V b+65536 ^ k*(nth 0 a k*V b)/\∀ j,k+b.length<=j->nth 0 r.2.1 j=0) (fun s ⟨j0,j1,j2,j3,j4,j5,j6,j7⟩=>by
      obtain⟨c,m,o',_⟩:=s
      dsimp only at *
      obtain⟨m,rfl⟩:∃ k:Nat,m=k:=⟨m.toNat,by omega⟩
      rw[Int.toNat_natCast] at *
      by_cases hm:m<b.length
      ·left
       have dbm:=nth_lt hb m
       have dom:=nth_lt j4 (k+m)
       have hx:0<=nth 0 a k*nth 0 b m:=Int.mul_nonneg (by omega) (by omega)
       have hy:nth 0 a k*nth 0 b m<=65535*65535:=by
        have h1:nth 0 a k*nth 0 b m<=65535*nth 0 b m:=Int.mul_le_mul_of_nonneg_right (by omega) (by omega)
        omega
       have e1:wr .i64 ((k:Int)+(m:Int))=((k+m:Nat):Int):=by rw[wr_id (by omega) (by omega)];omega
       rw[lt_true hm,cnd_t,e1,inR_ok (by omega),bnd_mk,ati_d 0 (i:=k+m) (by omega),bnd_mk,ati_d 0 hk,bnd_mk,ati_d 0 hm,bnd_mk,bnd_mk,ati_d 0 (i:=k+m) (by omega),bnd_mk,Int.toNat_natCast]
       rw[wru_id (x:=nth 0 a k*nth 0 b m) (by omega) (by omega),wru_id (x:=nth 0 o' (k+m)+nth 0 a k*nth 0 b m) (by omega) (by omega),wru_id (x:=nth 0 o' (k+m)+nth 0 a k*nth 0 b m+c) (by omega) (by omega),Int.tdiv_eq_ediv_of_nonneg (by omega),Int.tmod_eq_emod_of_nonneg (by omega),wru_id (x:=(nth 0 o' (k+m)+nth 0 a k*nth 0 b m+c) / 65536) (by omega) (by omega),wr_id (x:=(m:Int)+1) (by omega) (by omega)]
       refine⟨_,rfl,⟨by dsimp only;omega,by dsimp only;omega,by dsimp only;omega,by dsimp only;omega,dig_set j4 _ (by omega),by simp [j5],?_,?_⟩,by dsimp only;omega⟩
       ·dsimp only
        rw[v_set _ _ _ (by omega),show((m:Int)+1).toNat=m+1 by omega,v_take_succ]
        rw[show k+(m+1)=(k+m)+1 by omega,Int.pow_succ,Int.pow_add] at *
        generalize nth 0 a k=x at *
        generalize nth 0 b m=y at *
        generalize nth 0 o' (k+m)=z at *
        generalize (65536:Int) ^ k=P at *
        generalize (65536:Int) ^ m=Q at *
        have hd:z+x*y+c=65536*((z+x*y+c) / 65536)+(z+x*y+c) % 65536:=by omega
        generalize (z+x*y+c) / 65536=q at *
        generalize (z+x*y+c) % 65536=r at *
        generalize V (List.take m b)=B at *
        generalize V (List.take k a)*V b=A at *
        generalize V o'=O at *
        clear j7 i4 i5 hn e1 hx hy
        grind
       ·intro j hj
        dsimp only
        rw[nth_set_ne (by omega)]
        exact j7 j hj
      ·right
       have hmn:m=b.length:=by omega
       subst hmn
       refine⟨_,by rw[lt_false];rfl,j0,j1,j4,j5,?_,j7⟩
       rw[List.take_length] at j6
       exact j6) (0,0,o,()) ⟨by simp,by simp,by simp,by simp,i2,i3,by simp [V,i4],i5⟩
    dsimp only at *
    rw[lt_true hk,cnd_t,e,bnd_mk]
    have e1:wr .i64 ((k:Int)+(b.length:Int))=((k+b.length:Nat):Int):=by rw[wr_id (by omega) (by omega)];omega
    dsimp only
    rw[e1,inR_ok (by omega),bnd_mk,ati_d 0 (i:=k+b.length) (by omega),bnd_mk,bnd_mk,ati_d 0 (i:=k+b.length) (by omega),bnd_mk,Int.toNat_natCast,g6 _ (Nat.le_refl _),wru_id (x:=0+c) (by omega) (by omega),wr_succ hk (by omega)]
    refine⟨_,rfl,⟨by dsimp only;omega,by dsimp only;omega,dig_set g3 _ (by omega),by simp [g4],?_,?_⟩,by dsimp only;omega⟩
    ·dsimp only
     rw[v_set _ _ _ (by omega),show((k:Int)+1).toNat=k+1 by omega,v_take_succ,g6 _ (Nat.le_refl _)]
     generalize nth 0 a k=x at *
     generalize (65536:Int) ^ (k+b.length)=Q at *
     generalize (65536:Int) ^ k=P at *
     grind
    ·intro j hj
     dsimp only at hj ⊢
     rw[nth_set_ne (by omega)]
     exact g6 j (by omega)
   ·right
    have hkn:k=a.length:=by omega
    subst hkn
    refine⟨(o,()),by rw[lt_false];rfl,i2,?_,i3⟩
    rw[List.take_length] at i4
    exact i4) (0,List.replicate (a.length+b.length) 0,()) ⟨by simp,by simp,fun d hd=>by
     have:=List.eq_of_mem_replicate hd
     omega,by simp,by simp [V,v_rep],fun j _=>by
     simp only[nth,List.getD]
     by_cases hj:j<a.length+b.length
     ·simp [hj]
     ·simp [hj]⟩
 rw[e]
 exact⟨r.1,rfl,h1,h2,h3⟩
theorem plus2(a:List Int) (ha:Dig a) (la:a.length<=1000000):∃ l,q02_Plus (a,a,())=some l/\Dig l/\V l=2*V a/\l.length<=a.length+1:=by
 obtain⟨l,e,h1,h2,h3⟩:=plus a a ha ha la la
 exact⟨l,e,h1,by omega,by omega⟩
theorem twos(n:Nat) (hn:n<=1000):∃ l,q02_Twos ((n:Int),())=some l/\Dig l/\V l=2 ^ n/\l.length<=n+1:=by
 unfold q02_Twos
 dsimp only
 obtain⟨r,e,h1,h2,h3⟩:=loop_rule (f:=(fun(s2:List (Int)×Int×Unit)=>cnd (decide (s2.2.1<(n:Int))) (bnd (q02_Plus (s2.1,s2.1,())) fun r3=>inlE (r3,wr .i64 (s2.2.1+1),())) (inrE (some (s2.1,())))))
  (fun s=>0<=s.2.1/\s.2.1<=n/\Dig s.1/\V s.1=2 ^ s.2.1.toNat/\s.1.length<=s.2.1.toNat+1) (fun s=>n-s.2.1.toNat) (fun r=>Dig r.1/\V r.1=2 ^ n/\r.1.length<=n+1) (fun s ⟨i0,i1,i2,i3,i4⟩=>by
   obtain⟨o,i,_⟩:=s
   dsimp only at *
   obtain⟨k,rfl⟩:∃ k:Nat,i=k:=⟨i.toNat,by omega⟩
   rw[Int.toNat_natCast] at *
   by_cases hk:k<n
   ·left
    obtain⟨l,e,g1,g2,g3⟩:=plus2 o i2 (by omega)
    rw[lt_true hk,cnd_t,e,bnd_mk,wr_succ hk (by omega)]
    refine⟨_,rfl,⟨by dsimp only;omega,by dsimp only;omega,g1,?_,by dsimp only;omega⟩,by dsimp only;omega⟩
    dsimp only
    rw[show((k:Int)+1).toNat=k+1 by omega,Int.pow_succ,g2,i3]
    omega
   ·right
    have hkn:k=n:=by omega
    subst hkn
    exact⟨_,by rw[lt_false];rfl,i2,i3,i4⟩) ([1],0,()) ⟨by simp,by simp,dig_cons.2 ⟨by omega,dig_nil⟩,by simp [V],by simp⟩
 rw[e]
 exact⟨r.1,rfl,h1,h2,h3⟩
def T(a:List Int) (i m:Nat):Int:=V ((a.drop i).take m)
theorem t_succ(a:List Int) (i m:Nat):T a i (m+1)=nth 0 a i+65536*T a (i+1) m:=by
 unfold T
 by_cases hi:i<a.length
 ·rw[List.drop_eq_getElem_cons hi,List.take_succ_cons]
  simp only[V]
  congr 1
  simp [nth,List.getD,hi]
 ·rw[List.drop_of_length_le (by omega),List.drop_of_length_le (by omega)]
  simp [V,nth,List.getD,hi]
theorem t_zero(a:List Int) (i:Nat):T a i 0=0:=by simp [T,V]
theorem t_nonneg{a:List Int} (h:Dig a) (i m:Nat):0<=T a i m:=v_nonneg (dig_take (dig_drop h i) m)
theorem t_lt{a:List Int} (h:Dig a) (i m:Nat):T a i m<65536 ^ m:=v_take_lt (dig_drop h i) m
theorem mod(a:List Int) (ha:Dig a):q02_Mod (a,())=some (T a 4 4,T a 0 4,()):=by
 unfold q02_Mod
 dsimp only
 have d:∀ i,0<=nth 0 a i/\nth 0 a i<65536:=nth_lt ha
 have hi:∀ (i:Nat) (h l:Int),4<=i->i<=7->0<=h->h<281474976710656->(fun(s2:Int×(Int×(Int×Unit))×Unit)=>cnd (decide (s2.1>=0)) (bnd (cnd (decide (s2.1>=4)) (bnd (q02_digit (a,s2.1,())) fun r4=>some ((wr .u64 ((wr .u64 (s2.2.1.1*65536))+r4),s2.2.1.2),())) (bnd (q02_digit (a,s2.1,())) fun r5=>some ((s2.2.1.1,wr .u64 ((wr .u64 (s2.2.1.2.1*65536))+r5),s2.2.1.2.2),()))) fun j3=>inlE (wr .i64 (s2.1-1),j3.1,())) (inrE (some (s2.2.1,())):Option ((Int×(Int×(Int×Unit))×Unit) ⊕ ((Int×Int×Unit)×Unit)))) ((i:Int),(h,l,()),())=some (.inl ((i:Int)-1,(h*65536+nth 0 a i,l,()),())):=by
  intro i h l h4 h7 h0 h1
  have:=d i
  dsimp only
  rw[decide_eq_true (by omega:(i:Int)>=0),decide_eq_true (by omega:(i:Int)>=4),digit,cnd_t,cnd_t,bnd_mk,bnd_mk,wru_id (x:=h*65536) (by omega) (by omega),wru_id (x:=h*65536+nth 0 a i) (by omega) (by omega),wr_id (by omega) (by omega)]
  rfl
 have lo:∀ (i:Nat) (h l:Int),i<4->0<=l->l<281474976710656->(fun(s2:Int×(Int×(Int×Unit))×Unit)=>cnd (decide (s2.1>=0)) (bnd (cnd (decide (s2.1>=4)) (bnd (q02_digit (a,s2.1,())) fun r4=>some ((wr .u64 ((wr .u64 (s2.2.1.1*65536))+r4),s2.2.1.2),())) (bnd (q02_digit (a,s2.1,())) fun r5=>some ((s2.2.1.1,wr .u64 ((wr .u64 (s2.2.1.2.1*65536))+r5),s2.2.1.2.2),()))) fun j3=>inlE (wr .i64 (s2.1-1),j3.1,())) (inrE (some (s2.2.1,())):Option ((Int×(Int×(Int×Unit))×Unit) ⊕ ((Int×Int×Unit)×Unit)))) ((i:Int),(h,l,()),())=some (.inl ((i:Int)-1,(h,l*65536+nth 0 a i,()),())):=by
  intro i h l h4 h0 h1
  have:=d i
  dsimp only
  rw[decide_eq_true (by omega:(i:Int)>=0),decide_eq_false (by omega:¬ (i:Int)>=4),digit,cnd_t,cnd_f,bnd_mk,bnd_mk,wru_id (x:=l*65536) (by omega) (by omega),wru_id (x:=l*65536+nth 0 a i) (by omega) (by omega),wr_id (by omega) (by omega)]
  rfl
 have d0:=d 0;have d1:=d 1;have d2:=d 2;have d3:=d 3;have d4:=d 4;have d5:=d 5;have d6:=d 6;have d7:=d 7
 rw[show((7:Int),((0:Int),(0:Int),()),())=(((7:Nat):Int),((0:Int),(0:Int),()),()) from rfl]
 rw[loopP_step (hi 7 0 0 (by omega) (by omega) (by omega) (by omega)),show((7:Nat):Int)-1=((6:Nat):Int) from rfl,
  loopP_step (hi 6 _ 0 (by omega) (by omega) (by omega) (by omega)),show((6:Nat):Int)-1=((5:Nat):Int) from rfl,
  loopP_step (hi 5 _ 0 (by omega) (by omega) (by omega) (by omega)),show((5:Nat):Int)-1=((4:Nat):Int) from rfl,
  loopP_step (hi 4 _ 0 (by omega) (by omega) (by omega) (by omega)),show((4:Nat):Int)-1=((3:Nat):Int) from rfl,
  loopP_step (lo 3 _ 0 (by omega) (by omega) (by omega)),show((3:Nat):Int)-1=((2:Nat):Int) from rfl,
  loopP_step (lo 2 _ _ (by omega) (by omega) (by omega)),show((2:Nat):Int)-1=((1:Nat):Int) from rfl,
  loopP_step (lo 1 _ _ (by omega) (by omega) (by omega)),show((1:Nat):Int)-1=((0:Nat):Int) from rfl,
  loopP_step (lo 0 _ _ (by omega) (by omega) (by omega))]
 rw[loopP_done (r:=_) (by rfl),bnd_mk]
 have t4:T a 4 4=nth 0 a 4+65536*(nth 0 a 5+65536*(nth 0 a 6+65536*nth 0 a 7)):=by
  rw[t_succ,t_succ,t_succ,t_succ,t_zero];simp only[Nat.reduceAdd];omega
 have t0:T a 0 4=nth 0 a 0+65536*(nth 0 a 1+65536*(nth 0 a 2+65536*nth 0 a 3)):=by
  rw[t_succ,t_succ,t_succ,t_succ,t_zero];simp only[Nat.reduceAdd];omega
 rw[t4,t0]
 dsimp only
 congr 1
 refine Prod.ext ?_ (Prod.ext ?_ rfl)
 ·dsimp only;omega
 ·dsimp only;omega
theorem t_mod(a:List Int) (ha:Dig a):T a 0 4=V a % 18446744073709551616:=by
 have h1:=v_split a 4 []
 have h2:=t_nonneg ha 0 4
 have h3:=t_lt ha 0 4
 simp only[V,List.take_nil,List.drop_nil] at h1
 rw[show T a 0 4=V (a.take 4) by simp [T]] at *
 rw[show(65536:Int) ^ 4=18446744073709551616 from rfl] at *
 omega
theorem odd(a:List Int) (ha:Dig a):q03_Odd (a,())=some (decide (V a % 2=1)):=by
 unfold q03_Odd
 dsimp only
 cases a with
 | nil=>rfl
 | cons d l =>
  have h:=(dig_cons.1 ha).1
  rw[decide_eq_true (by simp:(((d::l).length:Nat):Int)>0),cnd_t,ati_0 0 (by simp)]
  simp only[bnd_mk]
  congr 1
  have e:nth 0 (d::l) 0=d:=rfl
  rw[e,Int.tmod_eq_emod_of_nonneg h.1,decide_eq_decide]
  simp only[V]
  omega
end Go.Proofs.YtmomjjgokeffnaaGreat.F
