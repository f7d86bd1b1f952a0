/- Digits: less, compared, times. -/
import Derived.Test.YtmomjjgokeffnaaGreatPARunParts
set_option linter.unusedVariables false
set_option linter.unusedSimpArgs false
namespace Go.Proofs.YtmomjjgokeffnaaGreat.F
open Go.VX
theorem less(a b:List Int) (ha:Dig a) (hb:Dig b) (la:a.length<=1000000) (lb:b.length<=1000000) (hle:V b<=V a) :
  ∃ l,q02_Less (a,b,())=some l/\Dig l/\V l=V a-V b/\l.length=a.length:=by
 unfold q02_Less
 dsimp only
 obtain⟨r,e,h1,h2,h3⟩:=loop_rule (f:=(fun(s2:List (Int)×Int×Int×Unit)=>cnd (decide (s2.2.2.1<(a.length:Int))) (bnd (ati a s2.2.2.1) fun v3=>bnd (q02_digit (b,s2.2.2.1,())) fun r4=>bnd (app 17592186044416 s2.1 [Int.tmod (wr .u64 ((wr .u64 ((wr .u64 (65536+v3))-r4))-s2.2.1)) 65536]) fun v5=>inlE (v5,wr .u64 (1-(wr .u64 (Int.tdiv (wr .u64 ((wr .u64 ((wr .u64 (65536+v3))-r4))-s2.2.1)) 65536))),wr .i64 (s2.2.2.1+1),())) (inrE (some (s2.1,())))))
  (fun s=>Dig s.1/\0<=s.2.1/\s.2.1<=1/\s.2.2.1=s.1.length/\s.1.length<=a.length/\V s.1+65536 ^ s.1.length*(V (a.drop s.1.length)-V (b.drop s.1.length)-s.2.1)=V a-V b)
  (fun s=>a.length-s.1.length) (fun r=>Dig r.1/\V r.1=V a-V b/\r.1.length=a.length) (fun s ⟨i0,i1,i2,i3,i4,i6⟩=>by
   obtain⟨o,c,i,_⟩:=s
   dsimp only at *
   subst i3
   have da:=nth_lt ha o.length
   have db:=nth_lt hb o.length
   by_cases hc:o.length<a.length
   ·left
    have hn1:wr .u64 (65536+nth 0 a o.length)=65536+nth 0 a o.length:=wru_id (by omega) (by omega)
    have hn2:wr .u64 (65536+nth 0 a o.length-nth 0 b o.length)=65536+nth 0 a o.length-nth 0 b o.length:=wru_id (by omega) (by omega)
    have hn:wr .u64 (65536+nth 0 a o.length-nth 0 b o.length-c)=65536+nth 0 a o.length-nth 0 b o.length-c:=wru_id (by omega) (by omega)
    refine⟨(o++[(65536+nth 0 a o.length-nth 0 b o.length-c) % 65536],1-(65536+nth 0 a o.length-nth 0 b o.length-c) / 65536,(o.length:Int)+1,()),?_,⟨?_,by dsimp only;omega,by dsimp only;omega,by simp,by simp;omega,?_⟩,by simp;omega⟩
    ·rw[lt_true hc,cnd_t,ati_d 0 hc,digit,bnd_mk,bnd_mk,hn1,hn2,hn,Int.tmod_eq_emod_of_nonneg (by omega),Int.tdiv_eq_ediv_of_nonneg (by omega),app_ok (by simp;omega),wru_id (x:=(65536+nth 0 a o.length-nth 0 b o.length-c) / 65536) (by omega) (by omega),wru_id (x:=1-(65536+nth 0 a o.length-nth 0 b o.length-c) / 65536) (by omega) (by omega),wr_id (by omega) (by omega)]
     rfl
    ·rw[dig_app]
     exact⟨i0,dig_cons.2 ⟨by omega,dig_nil⟩⟩
    ·dsimp only
     rw[v_app,List.length_append,List.length_singleton,Int.pow_succ,← i6,v_drop a o.length,v_drop b o.length]
     simp only[V]
     generalize nth 0 a o.length=x at *
     generalize nth 0 b o.length=y at *
     generalize (65536:Int) ^ o.length=P
     generalize V (a.drop (o.length+1))=A
     generalize V (b.drop (o.length+1))=B
     have hd:65536+x-y-c=65536*((65536+x-y-c) / 65536)+(65536+x-y-c) % 65536:=by omega
     generalize (65536+x-y-c) / 65536=q at *
     generalize (65536+x-y-c) % 65536=r at *
     grind
   ·right
    have hl:o.length=a.length:=by omega
    refine⟨(o,()),by rw[hl,lt_false];rfl,i0,?_,hl⟩
    dsimp only
    have hv:=v_lt i0
    have hv0:=v_nonneg i0
    have hb2:=v_nonneg (dig_drop hb o.length)
    rw[v_end a (by omega)] at i6
    have hP:=pw_pos o.length
    generalize (65536:Int) ^ o.length=P at *
    generalize V (b.drop o.length)=B at *
    by_cases hz:B+c=0
    ·have:B=0:=by omega
     have:c=0:=by omega
     subst B c
     simp at i6
     exact i6
    ·have h1:P*(0-B-c)<=P*(-1):=Int.mul_le_mul_of_nonneg_left (by omega) (by omega)
     omega) ([],0,0,()) ⟨dig_nil,by simp,by simp,by simp,by simp,by simp [V]⟩
 rw[e]
 exact⟨r.1,rfl,h1,h2,h3⟩
theorem v_split(a:List Int) (i:Nat):∀ b:List Int,V a-V b=V (a.take i)-V (b.take i)+65536 ^ i*(V (a.drop i)-V (b.drop i)):=by
 induction i generalizing a with
 | zero=>intro b;simp [V]
 | succ i ih =>
  intro b
  cases a with
  | nil =>
   cases b with
   | nil=>simp [V]
   | cons y b =>
    have:=ih [] b
    simp only[List.take_nil,List.drop_nil,V,List.take_succ_cons,List.drop_succ_cons] at this ⊢
    rw[Int.pow_succ]
    grind
  | cons x a =>
   cases b with
   | nil =>
    have:=ih a []
    simp only[List.take_nil,List.drop_nil,V,List.take_succ_cons,List.drop_succ_cons] at this ⊢
    rw[Int.pow_succ]
    grind
   | cons y b =>
    have:=ih a b
    simp only[V,List.take_succ_cons,List.drop_succ_cons] at this ⊢
    rw[Int.pow_succ]
    grind
theorem dig_take{a:List Int} (h:Dig a) (i:Nat):Dig (a.take i):=fun d hd=>h d (List.mem_of_mem_take hd)
theorem v_take_lt{a:List Int} (h:Dig a) (i:Nat):V (a.take i)<65536 ^ i:=by
 have h1:=v_lt (dig_take h i)
 have h2:(65536:Int) ^ (a.take i).length<=65536 ^ i:=by
  have:(a.take i).length<=i:=by simp;omega
  obtain⟨k,hk⟩:∃ k,i=(a.take i).length+k:=⟨i-(a.take i).length,by omega⟩
  generalize (a.take i).length=m at *
  rw[hk,Int.pow_add]
  have h3:=pw_pos m
  have h4:=pw_pos k
  generalize (65536:Int) ^ m=P at *
  generalize (65536:Int) ^ k=Q at *
  have:P*1<=P*Q:=Int.mul_le_mul_of_nonneg_left (by omega) (by omega)
  rw[Int.mul_one] at this
  exact this
 exact Int.lt_of_lt_of_le h1 h2
theorem v_less{a b:List Int} (ha:Dig a) (hb:Dig b) {i:Nat} (hi:nth 0 a i<nth 0 b i) (h:V (a.drop (i+1))=V (b.drop (i+1))):V a<V b:=by
 have h1:=v_split a i b
 rw[v_drop a i,v_drop b i,h] at h1
 have h2:=v_take_lt ha i
 have h3:=v_nonneg (dig_take hb i)
 have hP:=pw_pos i
 generalize (65536:Int) ^ i=P at *
 have h4:P*(nth 0 a i+65536*V (b.drop (i+1))-(nth 0 b i+65536*V (b.drop (i+1))))<=P*(-1):=Int.mul_le_mul_of_nonneg_left (by omega) (by omega)
 omega
theorem cmp(a b:List Int) (ha:Dig a) (hb:Dig b) (la:a.length<=1000000) (lb:b.length<=1000000) :
  q02_Cmp (a,b,())=some (if V a<V b then -1 else if V b<V a then 1 else 0):=by
 unfold q02_Cmp
 dsimp only
 have hm:(bnd (cnd (decide ((b.length:Int)>(a.length:Int))) (some ((b.length:Int),())) (some ((a.length:Int),()))) fun j1:Int×Unit=>some j1.1)=some ((max a.length b.length:Nat):Int):=by
  by_cases h:(b.length:Int)>(a.length:Int)
  ·rw[decide_eq_true h,cnd_t,bnd_mk,show max a.length b.length=b.length by omega]
  ·rw[decide_eq_false h,cnd_f,bnd_mk,show max a.length b.length=a.length by omega]
 revert hm
 generalize cnd (decide ((b.length:Int)>(a.length:Int))) (some ((b.length:Int),())) (some ((a.length:Int),()))=g
 cases g with
 | none=>intro hm;cases hm
 | some g =>
  intro hm
  rw[bnd_mk] at hm
  have hm:=Option.some.inj hm
  rw[bnd_mk,hm,wr_id (by omega) (by omega)]
  obtain⟨r,e,h⟩:=loop_rule (ρ:=Unit ⊕ Int) (f:=(fun(s3:Int×Unit)=>cnd (decide (s3.1>=0)) (bnd (q02_digit (a,s3.1,())) fun r4=>bnd (q02_digit (b,s3.1,())) fun r5=>cnd (decide (r4<r5)) (inrE (inrE (some (-1)))) (bnd (q02_digit (a,s3.1,())) fun r6=>bnd (q02_digit (b,s3.1,())) fun r7=>cnd (decide (r6>r7)) (inrE (inrE (some 1))) (inlE (wr .i64 (s3.1-1),())))) (inrE (inlE (())))))
   (fun s=>-1<=s.1/\s.1<=1000000/\V (a.drop (s.1+1).toNat)=V (b.drop (s.1+1).toNat)) (fun s=>(s.1+1).toNat) (fun r=>(r=.inl ()/\V a=V b)\/(r=.inr (-1)/\V a<V b)\/(r=.inr 1/\V b<V a)) (fun s ⟨i0,i1,i2⟩=>by
    obtain⟨i,_⟩:=s
    dsimp only at *
    by_cases hi:i>=0
    ·obtain⟨k,rfl⟩:∃ k:Nat,i=k:=⟨i.toNat,by omega⟩
     rw[show((k:Int)+1).toNat=k+1 by omega] at i2
     rw[decide_eq_true hi,cnd_t,digit,digit,bnd_mk,bnd_mk,bnd_mk,bnd_mk]
     by_cases h1:nth 0 a k<nth 0 b k
     ·right
      exact⟨.inr (-1),by rw[decide_eq_true h1];rfl,.inr (.inl ⟨rfl,v_less ha hb h1 i2⟩)⟩
     ·by_cases h2:nth 0 a k>nth 0 b k
      ·right
       exact⟨.inr 1,by rw[decide_eq_false h1,decide_eq_true h2];rfl,.inr (.inr ⟨rfl,v_less hb ha h2 i2.symm⟩)⟩
      ·left
       refine⟨((k:Int)-1,()),by rw[decide_eq_false h1,decide_eq_false h2,wr_id (by omega) (by omega)];rfl,⟨by dsimp only;omega,by dsimp only;omega,?_⟩,by dsimp only;omega⟩
       dsimp only
       rw[show((k:Int)-1+1).toNat=k by omega,v_drop a k,v_drop b k,i2]
       omega
    ·right
     refine⟨.inl (),by rw[decide_eq_false hi];rfl,.inl ⟨rfl,?_⟩⟩
     rw[show(i+1).toNat=0 by omega] at i2
     exact i2) (((max a.length b.length:Nat):Int)-1,()) ⟨by dsimp only;omega,by dsimp only;omega,by
      dsimp only
      rw[show(((max a.length b.length:Nat):Int)-1+1).toNat=max a.length b.length by omega,v_end a (by omega),v_end b (by omega)]⟩
  rw[e]
  rcases h with⟨rfl,h⟩ | ⟨rfl,h⟩ | ⟨rfl,h⟩
  ·rw[bndS_l,if_neg (by omega),if_neg (by omega)]
  ·rw[bndS_r,if_pos h]
  ·rw[bndS_r,if_neg (by omega),if_pos h]
end Go.Proofs.YtmomjjgokeffnaaGreat.F
