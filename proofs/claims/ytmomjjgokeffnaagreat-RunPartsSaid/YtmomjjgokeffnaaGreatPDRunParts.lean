/- Digits: quotients, rounded; the reference's product of fixed-point numbers. -/
import Derived.Test.YtmomjjgokeffnaaGreatPCRunParts
set_option linter.unusedVariables false
set_option linter.unusedSimpArgs false
namespace Go.Proofs.YtmomjjgokeffnaaGreat.F
open Go.VX
theorem plus_bit(a:List Int) (b:Int) (ha:Dig a) (hb:0<=b/\b<65536) (la:a.length<=1000000):∃ l,q02_Plus (a,[b],())=some l/\Dig l/\V l=V a+b/\l.length<=a.length+2:=by
 obtain⟨l,e,h1,h2,h3⟩:=plus a [b] ha (dig_cons.2 ⟨hb,dig_nil⟩) la (by simp)
 simp only[V,List.length_singleton] at h2 h3
 exact⟨l,e,h1,by omega,by omega⟩
theorem halves(d:Int) (hd:0<=d/\d<65536) (k:Nat) (hk:k<=15):loopP (fun(s7:Int×Int×Unit)=>cnd (decide (s7.2.1<15)) (inlE (wr .u64 (Int.tdiv s7.1 2),wr .i64 (s7.2.1+1),())) (inrE (some (s7.1,())))) (d,(k:Int),())=some (d / 2 ^ (15-k),()):=by
 obtain⟨r,e,h⟩:=loop_rule (f:=(fun(s7:Int×Int×Unit)=>cnd (decide (s7.2.1<15)) (inlE (wr .u64 (Int.tdiv s7.1 2),wr .i64 (s7.2.1+1),())) (inrE (some (s7.1,())))))
  (fun s=>0<=s.2.1/\s.2.1<=15/\0<=s.1/\s.1<65536/\s.1 / 2 ^ (15-s.2.1.toNat)=d / 2 ^ (15-k)) (fun s=>15-s.2.1.toNat) (fun r=>r=(d / 2 ^ (15-k),())) (fun s ⟨i0,i1,i2,i3,i4⟩=>by
   obtain⟨x,m,_⟩:=s
   dsimp only at *
   by_cases hm:m<15
   ·left
    refine⟨(x / 2,m+1,()),by rw[decide_eq_true hm,Int.tdiv_eq_ediv_of_nonneg i2,wru_id (by omega) (by omega),wr_id (by omega) (by omega)];rfl,⟨by dsimp only;omega,by dsimp only;omega,by dsimp only;omega,by dsimp only;omega,?_⟩,by dsimp only;omega⟩
    dsimp only
    rw[← i4,show 15-m.toNat=(15-(m+1).toNat)+1 by omega,Int.pow_succ,Int.mul_comm,Int.ediv_ediv_of_nonneg (by omega)]
   ·right
    have:m=15:=by omega
    subst this
    refine⟨(x,()),rfl,?_⟩
    simp at i4
    rw[i4]) (d,(k:Int),()) ⟨by simp,by dsimp only;omega,hd.1,hd.2,rfl⟩
 rw[e,h]
theorem quotient(a d:List Int) (ha:Dig a) (hd:Dig d) (la:a.length<=1000) (ld:d.length<=1000) (h0:0<V d) :
  ∃ l,q03_Quotient (a,d,())=some l/\Dig l/\V l=V a / V d/\l.length<=100000:=by
 unfold q03_Quotient
 dsimp only
 obtain⟨r,e,h1,h2,h3⟩:=loop_rule (f:=(fun(s2:List (Int)×List (Int)×Int×Unit)=>cnd (decide (s2.2.2.1>=0)) (bnd (loopP (fun(s4:List (Int)×List (Int)×Int×Unit)=>cnd (decide (s4.2.2.1<16)) (bnd (ati a s2.2.2.1) fun v5=>bnd (loopP (fun(s7:Int×Int×Unit)=>cnd (decide (s7.2.1<15)) (inlE (wr .u64 (Int.tdiv s7.1 2),wr .i64 (s7.2.1+1),())) (inrE (some (s7.1,())))) (v5,s4.2.2.1,())) fun j6=>bnd (q02_Plus (s4.2.1,s4.2.1,())) fun r8=>bnd (q02_Plus (r8,[Int.tmod j6.1 2],())) fun r9=>bnd (q02_Plus (s4.1,s4.1,())) fun r10=>bnd (q02_Cmp (r9,d,())) fun r11=>bnd (cnd (decide (r11>=0)) (bnd (q02_Less (r9,d,())) fun r13=>bnd (q02_Plus (r10,[1],())) fun r14=>some (r14,r13,())) (some (r10,r9,()))) fun j12=>inlE (j12.1,j12.2.1,wr .i64 (s4.2.2.1+1),())) (inrE (some (s4.1,s4.2.1,())))) (s2.1,s2.2.1,0,())) fun j3=>inlE (j3.1,j3.2.1,wr .i64 (s2.2.2.1-1),())) (inrE (some (s2.1,())))))
  (fun s=>-1<=s.2.2.1/\s.2.2.1<a.length/\Dig s.1/\Dig s.2.1/\s.1.length<=48*(a.length-(s.2.2.1+1).toNat)/\s.2.1.length<=48*(a.length-(s.2.2.1+1).toNat)/\V (a.drop (s.2.2.1+1).toNat)=V d*V s.1+V s.2.1/\V s.2.1<V d) (fun s=>(s.2.2.1+1).toNat)
  (fun r=>Dig r.1/\V r.1=V a / V d/\r.1.length<=100000) (fun s ⟨i0,i1,i2,i3,i4,i5,i6,i7⟩=>by
   obtain⟨q,t,i,_⟩:=s
   dsimp only at *
   by_cases hi:i>=0
   ·left
    obtain⟨m,rfl⟩:∃ k:Nat,i=k:=⟨i.toNat,by omega⟩
    have hm:m<a.length:=by omega
    have dm:=nth_lt ha m
    rw[show((m:Int)+1).toNat=m+1 by omega] at *
    obtain⟨⟨q',t',_⟩,e,g1,g2,g3,g4,g5,g6⟩:=loop_rule (f:=(fun(s4:List (Int)×List (Int)×Int×Unit)=>cnd (decide (s4.2.2.1<16)) (bnd (ati a (m:Int)) fun v5=>bnd (loopP (fun(s7:Int×Int×Unit)=>cnd (decide (s7.2.1<15)) (inlE (wr .u64 (Int.tdiv s7.1 2),wr .i64 (s7.2.1+1),())) (inrE (some (s7.1,())))) (v5,s4.2.2.1,())) fun j6=>bnd (q02_Plus (s4.2.1,s4.2.1,())) fun r8=>bnd (q02_Plus (r8,[Int.tmod j6.1 2],())) fun r9=>bnd (q02_Plus (s4.1,s4.1,())) fun r10=>bnd (q02_Cmp (r9,d,())) fun r11=>bnd (cnd (decide (r11>=0)) (bnd (q02_Less (r9,d,())) fun r13=>bnd (q02_Plus (r10,[1],())) fun r14=>some (r14,r13,())) (some (r10,r9,()))) fun j12=>inlE (j12.1,j12.2.1,wr .i64 (s4.2.2.1+1),())) (inrE (some (s4.1,s4.2.1,())))))
     (fun s=>0<=s.2.2.1/\s.2.2.1<=16/\Dig s.1/\Dig s.2.1/\s.1.length<=48*(a.length-(m+1))+3*s.2.2.1.toNat/\s.2.1.length<=48*(a.length-(m+1))+3*s.2.2.1.toNat/\2 ^ s.2.2.1.toNat*V (a.drop (m+1))+nth 0 a m / 2 ^ (16-s.2.2.1.toNat)=V d*V s.1+V s.2.1/\V s.2.1<V d) (fun s=>16-s.2.2.1.toNat)
     (fun r=>Dig r.1/\Dig r.2.1/\r.1.length<=48*(a.length-m)/\r.2.1.length<=48*(a.length-m)/\V (a.drop m)=V d*V r.1+V r.2.1/\V r.2.1<V d) (fun s ⟨j0,j1,j2,j3,j4,j5,j6,j7⟩=>by
      obtain⟨q,t,k,_⟩:=s
      dsimp only at *
      obtain⟨k,rfl⟩:∃ n:Nat,k=n:=⟨k.toNat,by omega⟩
      rw[Int.toNat_natCast] at *
      by_cases hk:(k:Int)<16
      ·left
       obtain⟨l8,e8,a8,b8,c8⟩:=plus2 t j3 (by omega)
       have hbit:0<=nth 0 a m / 2 ^ (15-k):=Int.ediv_nonneg dm.1 (Int.le_of_lt (Int.pow_pos (by omega)))
       obtain⟨l9,e9,a9,b9,c9⟩:=plus_bit l8 (nth 0 a m / 2 ^ (15-k) % 2) a8 (by omega) (by omega)
       obtain⟨l10,e10,a10,b10,c10⟩:=plus2 q j2 (by omega)
       rw[decide_eq_true hk,cnd_t,ati_d 0 hm,bnd_mk,halves _ dm k (by omega),bnd_mk,e8,bnd_mk]
       dsimp only
       rw[Int.tmod_eq_emod_of_nonneg hbit,e9,bnd_mk,e10,bnd_mk,cmp _ _ a9 hd (by omega) (by omega),bnd_mk,wr_id (x:=(k:Int)+1) (by omega) (by omega)]
       have hN:2 ^ (k+1)*V (a.drop (m+1))+nth 0 a m / 2 ^ (16-(k+1))=V d*(2*V q)+V l9:=by
        rw[b9,b8,show 16-(k+1)=15-k by omega,Int.pow_succ]
        rw[show 16-k=(15-k)+1 by omega,Int.pow_succ,← Int.ediv_ediv_of_nonneg (Int.le_of_lt (Int.pow_pos (by omega)))] at j6
        generalize nth 0 a m / 2 ^ (15-k)=B at *
        have hB:B=2*(B / 2)+B % 2:=by omega
        generalize B / 2=B2 at *
        generalize B % 2=b at *
        generalize V (a.drop (m+1))=A at *
        generalize (2:Int) ^ k=P at *
        clear i6 hbit
        grind
       by_cases hc:V l9<V d
       ·rw[if_pos hc]
        refine⟨(l10,l9,(k:Int)+1,()),rfl,⟨by dsimp only;omega,by dsimp only;omega,a10,a9,by dsimp only;omega,by dsimp only;omega,?_,hc⟩,by dsimp only;omega⟩
        dsimp only
        rw[show((k:Int)+1).toNat=k+1 by omega,hN,b10]
       ·rw[if_neg hc]
        obtain⟨l13,e13,a13,b13,c13⟩:=less l9 d a9 hd (by omega) (by omega) (by omega)
        obtain⟨l14,e14,a14,b14,c14⟩:=plus_bit l10 1 a10 (by omega) (by omega)
        have h9:V l9<2*V d:=by
         rw[b9,b8];omega
        refine⟨(l14,l13,(k:Int)+1,()),?_,⟨by dsimp only;omega,by dsimp only;omega,a14,a13,by dsimp only;omega,by dsimp only;omega,?_,by dsimp only;omega⟩,by dsimp only;omega⟩
        ·rw[decide_eq_true (by split<;>omega),cnd_t,e13,bnd_mk,e14];rfl
        ·dsimp only
         rw[show((k:Int)+1).toNat=k+1 by omega,hN,b13,b14,b10]
         grind
      ·right
       have hk16:k=16:=by omega
       subst hk16
       refine⟨(q,t,()),rfl,j2,j3,by dsimp only;omega,by dsimp only;omega,?_,j7⟩
       dsimp only
       rw[v_drop a m,← j6]
       simp
       omega) (q,t,0,()) ⟨by simp,by simp,i2,i3,by simpa using i4,by simpa using i5,by
        dsimp only
        rw[← i6]
        simp
        omega,i7⟩
    dsimp only at *
    rw[decide_eq_true hi,cnd_t,e,bnd_mk,wr_id (by omega) (by omega)]
    refine⟨_,rfl,⟨by dsimp only;omega,by dsimp only;omega,g1,g2,?_,?_,?_,g6⟩,by dsimp only;omega⟩
    ·dsimp only;rw[show((m:Int)-1+1).toNat=m by omega];exact g3
    ·dsimp only;rw[show((m:Int)-1+1).toNat=m by omega];exact g4
    ·dsimp only;rw[show((m:Int)-1+1).toNat=m by omega];exact g5
   ·right
    refine⟨(q,()),by rw[decide_eq_false hi];rfl,i2,?_,by dsimp only;omega⟩
    rw[show(i+1).toNat=0 by omega] at i6
    simp only[List.drop_zero] at i6
    dsimp only
    have ht:=v_nonneg i3
    rw[i6,Int.add_comm,Int.add_mul_ediv_left _ _ (by omega),Int.ediv_eq_zero_of_lt ht i7]
    omega) ([],[],wr .i64 ((a.length:Int)-1),()) (by
    rw[wr_id (by omega) (by omega)]
    refine⟨by dsimp only;omega,by dsimp only;omega,dig_nil,dig_nil,by simp,by simp,?_,by simpa [V] using h0⟩
    dsimp only
    rw[show((a.length:Int)-1+1).toNat=a.length by omega,v_end a (Nat.le_refl _)]
    simp [V])
 rw[e]
 exact⟨r.1,rfl,h1,h2,h3⟩
end Go.Proofs.YtmomjjgokeffnaaGreat.F
