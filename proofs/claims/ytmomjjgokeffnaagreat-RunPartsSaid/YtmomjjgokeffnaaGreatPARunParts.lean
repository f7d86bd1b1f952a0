/- Digits: what the reference reckons with, as numbers. -/
import Derived.Test.YtmomjjgokeffnaaGreatP0RunParts
import Derived.Test.YtmomjjgokeffnaaGreatFRunParts
set_option linter.unusedVariables false
set_option linter.unusedSimpArgs false
namespace Go.Proofs.YtmomjjgokeffnaaGreat.F
open Go.VX
def Dig(l:List Int):Prop:=∀ d∈l,0<=d/\d<65536
def V:List Int->Int
 | []=>0
 | d::l=>d+65536*V l
theorem dig_nil:Dig []:=fun d h=>by cases h
theorem dig_cons{d:Int} {l:List Int}:Dig (d::l)↔(0<=d/\d<65536)/\Dig l:=by
 simp [Dig]
theorem dig_app{a b:List Int}:Dig (a++b)↔Dig a/\Dig b:=by
 constructor
 ·exact fun h=>⟨fun d hd=>h d (List.mem_append_left _ hd),fun d hd=>h d (List.mem_append_right _ hd)⟩
 ·intro h d hd
  rcases List.mem_append.1 hd with h1 | h1
  ·exact h.1 d h1
  ·exact h.2 d h1
theorem dig_drop{a:List Int} (h:Dig a) (i:Nat):Dig (a.drop i):=fun d hd=>h d (List.mem_of_mem_drop hd)
theorem v_nonneg:∀ {l:List Int},Dig l->0<=V l
 | [],_=>Int.le_refl _
 | d::l,h=>by
  have h1:=(dig_cons.1 h).1
  have h2:=v_nonneg (dig_cons.1 h).2
  simp only[V];omega
theorem pw_pos(n:Nat):(0:Int)<65536 ^ n:=Int.pow_pos (by omega)
theorem v_lt:∀ {l:List Int},Dig l->V l<65536 ^ l.length
 | [],_=>by simp [V]
 | d::l,h=>by
  have h1:=(dig_cons.1 h).1
  have h2:=v_lt (dig_cons.1 h).2
  simp only[V,List.length_cons]
  rw[Int.pow_succ]
  omega
theorem v_app:∀ (a b:List Int),V (a++b)=V a+65536 ^ a.length*V b
 | [],b=>by simp [V]
 | d::l,b=>by
  have h:=v_app l b
  simp only[List.cons_append,V,List.length_cons,h]
  rw[Int.pow_succ]
  grind
theorem nth_lt{a:List Int} (h:Dig a) (i:Nat):0<=nth 0 a i/\nth 0 a i<65536:=by
 by_cases hi:i<a.length
 ·exact h _ (nth_mem hi)
 ·simp [nth,List.getD,hi]
theorem v_drop(a:List Int) (i:Nat):V (a.drop i)=nth 0 a i+65536*V (a.drop (i+1)):=by
 by_cases hi:i<a.length
 ·rw[List.drop_eq_getElem_cons hi]
  simp [V,nth,List.getD,hi]
 ·rw[List.drop_of_length_le (by omega),List.drop_of_length_le (by omega)]
  simp [V,nth,List.getD,hi]
theorem v_end(a:List Int) {i:Nat} (h:a.length<=i):V (a.drop i)=0:=by
 rw[List.drop_of_length_le h];rfl
theorem digit(a:List Int) (i:Nat):q02_digit (a,(i:Int),())=some (nth 0 a i):=by
 unfold q02_digit
 dsimp only
 by_cases h:i<a.length
 ·rw[lt_true h,cnd_t,ati_d 0 h];rfl
 ·rw[decide_eq_false (by omega),cnd_f]
  simp [nth,List.getD,h]
theorem word(u:Int) (h0:0<=u) (h1:u<18446744073709551616):∃ l,q02_Word (u,())=some l/\Dig l/\V l=u/\l.length=4:=by
 unfold q02_Word
 dsimp only
 rw[Int.tdiv_eq_ediv_of_nonneg h0,Int.tdiv_eq_ediv_of_nonneg h0,Int.tdiv_eq_ediv_of_nonneg h0,Int.tmod_eq_emod_of_nonneg h0,wru_id (x:=u / 65536) (by omega) (by omega),wru_id (x:=u / 4294967296) (by omega) (by omega),wru_id (x:=u / 281474976710656) (by omega) (by omega),Int.tmod_eq_emod_of_nonneg (by omega),Int.tmod_eq_emod_of_nonneg (by omega)]
 refine⟨_,rfl,?_,?_,rfl⟩
 ·simp only[dig_cons]
  refine⟨by omega,by omega,by omega,by omega,dig_nil⟩
 ·simp only[V];omega
theorem size(x:Int) (h0:-9223372036854775808<=x) (h1:x<=9223372036854775807):∃ l,q02_Size (x,())=some l/\Dig l/\V l=Abs x/\l.length=4:=by
 unfold q02_Size Abs
 dsimp only
 by_cases h:x<0
 ·rw[decide_eq_true h,cnd_t,if_pos h]
  have e:wr .u64 (0-wr .u64 x)=-x:=by rw[wru_mod,wru_mod];omega
  rw[e]
  obtain⟨l,e1,h2⟩:=word (-x) (by omega) (by omega)
  exact⟨l,by rw[e1];rfl,h2⟩
 ·rw[decide_eq_false h,cnd_f,if_neg h,wru_id (by omega) (by omega)]
  obtain⟨l,e1,h2⟩:=word x (by omega) (by omega)
  exact⟨l,by rw[e1];rfl,h2⟩
theorem plus(a b:List Int) (ha:Dig a) (hb:Dig b) (la:a.length<=1000000) (lb:b.length<=1000000) :
  ∃ l,q02_Plus (a,b,())=some l/\Dig l/\V l=V a+V b/\l.length<=max a.length b.length+1:=by
 unfold q02_Plus
 dsimp only
 obtain⟨r,e,h1,h2,h3⟩:=loop_rule (f:=(fun(s2:List (Int)×Int×Int×Unit)=>bnd (cnd (!(decide (s2.2.2.1<(a.length:Int)))) (some (decide (s2.2.2.1<(b.length:Int)))) (some true)) fun j3=>bnd (cnd (!j3) (some (decide (s2.2.1>0))) (some true)) fun j4=>cnd j4 (bnd (q02_digit (a,s2.2.2.1,())) fun r5=>bnd (q02_digit (b,s2.2.2.1,())) fun r6=>bnd (app 17592186044416 s2.1 [Int.tmod (wr .u64 ((wr .u64 (r5+r6))+s2.2.1)) 65536]) fun v7=>inlE (v7,wr .u64 (Int.tdiv (wr .u64 ((wr .u64 (r5+r6))+s2.2.1)) 65536),wr .i64 (s2.2.2.1+1),())) (inrE (some (s2.1,())))))
  (fun s=>Dig s.1/\0<=s.2.1/\s.2.1<=1/\s.2.2.1=s.1.length/\s.1.length<=max a.length b.length+1/\(s.1.length=max a.length b.length+1->s.2.1=0)/\V s.1+65536 ^ s.1.length*(s.2.1+V (a.drop s.1.length)+V (b.drop s.1.length))=V a+V b)
  (fun s=>max a.length b.length+1-s.1.length) (fun r=>Dig r.1/\V r.1=V a+V b/\r.1.length<=max a.length b.length+1) (fun s ⟨i0,i1,i2,i3,i4,i5,i6⟩=>by
   obtain⟨o,c,i,_⟩:=s
   dsimp only at *
   subst i3
   have da:=nth_lt ha o.length
   have db:=nth_lt hb o.length
   by_cases hc:o.length<a.length\/o.length<b.length\/c>0
   ·left
    have hn1:wr .u64 (nth 0 a o.length+nth 0 b o.length)=nth 0 a o.length+nth 0 b o.length:=wru_id (by omega) (by omega)
    have hn:wr .u64 (nth 0 a o.length+nth 0 b o.length+c)=nth 0 a o.length+nth 0 b o.length+c:=wru_id (by omega) (by omega)
    have hlt:o.length<=max a.length b.length:=by omega
    refine⟨(o++[(nth 0 a o.length+nth 0 b o.length+c) % 65536],(nth 0 a o.length+nth 0 b o.length+c) / 65536,(o.length:Int)+1,()),?_,⟨?_,by dsimp only;omega,by dsimp only;omega,by simp,by simp;omega,?_,?_⟩,by simp;omega⟩
    ·have hg:(bnd (cnd (!(decide ((o.length:Int)<(a.length:Int)))) (some (decide ((o.length:Int)<(b.length:Int)))) (some true)) fun j3=>bnd (cnd (!j3) (some (decide (c>0))) (some true)) fun j4=>some j4)=some true:=by
      by_cases h1:(o.length:Int)<(a.length:Int)
      ·rw[decide_eq_true h1];rfl
      ·by_cases h2:(o.length:Int)<(b.length:Int)
       ·rw[decide_eq_false h1,decide_eq_true h2];rfl
       ·have h3:c>0:=by omega
        rw[decide_eq_false h1,decide_eq_false h2,decide_eq_true h3];rfl
     rw[digit,digit,bnd_mk,bnd_mk,hn1,hn,Int.tmod_eq_emod_of_nonneg (by omega),Int.tdiv_eq_ediv_of_nonneg (by omega),app_ok (by simp;omega),wru_id (x:=(nth 0 a o.length+nth 0 b o.length+c) / 65536) (by omega) (by omega),wr_id (by omega) (by omega)]
     revert hg
     generalize cnd (!(decide ((o.length:Int)<(a.length:Int)))) (some (decide ((o.length:Int)<(b.length:Int)))) (some true)=g
     cases g with
     | none=>intro hg;cases hg
     | some g =>
      rw[bnd_mk,bnd_mk]
      generalize cnd (!g) (some (decide (c>0))) (some true)=g2
      cases g2 with
      | none=>intro hg;cases hg
      | some g2=>intro hg;cases hg;rfl
    ·rw[dig_app]
     exact⟨i0,dig_cons.2 ⟨by omega,dig_nil⟩⟩
    ·dsimp only
     intro hl
     simp at hl
     have e1:nth 0 a o.length=0:=by simp [nth,List.getD,show ¬ o.length<a.length by omega]
     have e2:nth 0 b o.length=0:=by simp [nth,List.getD,show ¬ o.length<b.length by omega]
     rw[e1,e2];omega
    ·dsimp only
     rw[v_app,List.length_append,List.length_singleton,Int.pow_succ,← i6,v_drop a o.length,v_drop b o.length]
     simp only[V]
     generalize nth 0 a o.length=x at *
     generalize nth 0 b o.length=y at *
     generalize (65536:Int) ^ o.length=P
     generalize V (a.drop (o.length+1))=A
     generalize V (b.drop (o.length+1))=B
     have hd:x+y+c=65536*((x+y+c) / 65536)+(x+y+c) % 65536:=by omega
     generalize (x+y+c) / 65536=q at *
     generalize (x+y+c) % 65536=r at *
     grind
   ·right
    have h1:¬ (o.length:Int)<(a.length:Int):=by omega
    have h2:¬ (o.length:Int)<(b.length:Int):=by omega
    have h3:¬ c>0:=by omega
    refine⟨(o,()),by rw[decide_eq_false h1,decide_eq_false h2,decide_eq_false h3];rfl,i0,?_,by dsimp only;omega⟩
    dsimp only
    rw[v_end a (by omega),v_end b (by omega),show c=0 by omega] at i6
    omega) ([],0,0,()) ⟨dig_nil,by simp,by simp,by simp,by simp,by simp,by simp [V]⟩
 rw[e]
 exact⟨r.1,rfl,h1,h2,h3⟩
end Go.Proofs.YtmomjjgokeffnaaGreat.F
