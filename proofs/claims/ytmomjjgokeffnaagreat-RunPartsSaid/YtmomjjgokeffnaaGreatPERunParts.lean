/- The reference's rounded quotient and product, as numbers. -/
import Derived.Test.YtmomjjgokeffnaaGreatPDRunParts
set_option linter.unusedVariables false
set_option linter.unusedSimpArgs false
namespace Go.Proofs.YtmomjjgokeffnaaGreat.F
open Go.VX
theorem rounded(a d:List Int) (ha:Dig a) (hd:Dig d) (la:a.length<=1000) (ld:d.length<=1000) (h0:0<V d) :
  ∃ l,q03_Rounded (a,d,())=some l/\Dig l/\V l=Rd (V a) (V d)/\l.length<=100002:=by
 unfold q03_Rounded
 dsimp only
 obtain⟨q,e1,a1,b1,c1⟩:=quotient a d ha hd la ld h0
 obtain⟨m,e2,a2,b2,c2⟩:=times q d a1 hd (by omega) (by omega)
 have h00:Dig (a++[0]):=dig_app.2 ⟨ha,dig_cons.2 ⟨by omega,dig_nil⟩⟩
 have v00:V (a++[0])=V a:=by rw[v_app];simp [V]
 have hdm:=Int.emod_add_mul_ediv (V a) (V d)
 have hr:=Int.emod_nonneg (V a) (by omega:V d≠0)
 have hr2:=Int.emod_lt_of_pos (V a) h0
 have hmv:V m=V d*(V a / V d):=by rw[b2,b1,Int.mul_comm]
 obtain⟨t,e3,a3,b3,c3⟩:=less (a++[0]) m h00 a2 (by simp;omega) (by omega) (by rw[v00,hmv];omega)
 have ht:V t=V a % V d:=by rw[b3,v00,hmv];omega
 obtain⟨t2,e4,a4,b4,c4⟩:=plus2 t a3 (by rw[c3];simp;omega)
 have lt2:t2.length<=1000000:=by rw[c3] at c4;simp at c4;omega
 rw[e1,bnd_mk,app_ok (by simp;omega),bnd_mk,app_ok (by simp;omega),bnd_mk,e2,bnd_mk]
 simp only[List.nil_append]
 rw[e3,bnd_mk,e4,bnd_mk,cmp _ _ a4 hd lt2 (by omega),bnd_mk]
 have ho:=odd q a1
 obtain⟨q1,e5,a5,b5,c5⟩:=plus_bit q 1 a1 (by omega) (by omega)
 rw[b4,ht]
 unfold Rd
 by_cases k1:2*(V a % V d)<V d
 ·rw[if_pos k1,if_neg (by omega)]
  exact⟨q,rfl,a1,b1,by omega⟩
 ·rw[if_neg k1]
  by_cases k2:V d<2*(V a % V d)
  ·rw[if_pos k2,if_pos (by omega),e5]
   exact⟨q1,rfl,a5,by rw[b5,b1],by omega⟩
  ·rw[if_neg k2,ho]
   by_cases k3:V q % 2=1
   ·rw[if_pos (by right;rw[← b1];omega),decide_eq_true k3,e5]
    exact⟨q1,rfl,a5,by rw[b5,b1],by omega⟩
   ·rw[if_neg (by rw[← b1];omega),decide_eq_false k3]
    exact⟨q,rfl,a1,b1,by omega⟩
theorem rsigned(a:List Int) (neg:Bool) (ha:Dig a) (la:a.length<=1000000):q04_Signed (a,neg,())=some (Sg (V a) neg):=by
 unfold q04_Signed
 dsimp only
 obtain⟨p,e1,a1,b1,c1⟩:=twos 63 (by omega)
 have e1':q02_Twos (63,())=some p:=e1
 rw[show(2:Int) ^ 63=9223372036854775808 from rfl] at b1
 have h0:=v_nonneg ha
 rw[e1',bnd_mk,cmp _ _ ha a1 la (by omega),bnd_mk,mod a ha,t_mod a ha,b1]
 unfold Sg
 by_cases k1:V a<9223372036854775808
 ·rw[if_pos k1,if_neg (by omega)]
  cases neg with
  | true =>
   have e:wr .i64 (wr .u64 (0-V a % 18446744073709551616))=-V a:=by
    rw[wru_mod]
    by_cases hz:V a=0
    ·rw[hz];rfl
    ·rw[show(0-V a % 18446744073709551616) % 18446744073709551616=18446744073709551616-V a by omega]
     simp only[wr,IntKind.wrap,IntKind.signed,IntKind.bits,Bool.true_and,if_true]
     split<;>(simp at *;omega)
   rw[← e];rfl
  | false =>
   have e:wr .i64 (V a % 18446744073709551616)=V a:=by rw[wr_id (by omega) (by omega)];omega
   show some (wr .i64 (V a % 18446744073709551616),0,())=_
   rw[e];rfl
 ·rw[if_neg k1]
  by_cases k2:9223372036854775808<V a
  ·rw[if_pos k2,if_pos (by omega)];rfl
  ·have hv:V a=9223372036854775808:=by omega
   rw[if_neg k2,hv]
   cases neg<;>rfl
theorem rmul(x y:Int) (h1:-9223372036854775808<=x) (h2:x<=9223372036854775807) (h3:-9223372036854775808<=y) (h4:y<=9223372036854775807):q04_Mul (x,y,())=some (MulS x y):=by
 unfold q04_Mul MulS
 dsimp only
 obtain⟨l1,e1,a1,b1,c1⟩:=size x h1 h2
 obtain⟨l2,e2,a2,b2,c2⟩:=size y h3 h4
 obtain⟨l3,e3,a3,b3,c3⟩:=times l1 l2 a1 a2 (by omega) (by omega)
 obtain⟨l4,e4,a4,b4,c4⟩:=twos 32 (by omega)
 have e4':q02_Twos (32,())=some l4:=e4
 rw[show(2:Int) ^ 32=4294967296 from rfl] at b4
 obtain⟨l5,e5,a5,b5,c5⟩:=rounded l3 l4 a3 a4 (by omega) (by omega) (by omega)
 rw[e1,bnd_mk,e2,bnd_mk,e3,bnd_mk,e4',bnd_mk,e5,bnd_mk,rsigned _ _ a5 (by omega),bnd_mk,b5,b3,b1,b2,b4]
theorem rpart(x y:Int) (h1:-9223372036854775808<=x) (h2:x<=9223372036854775807) (h3:-9223372036854775808<=y) (h4:y<=9223372036854775807):q04_Part (x,y,())=some (MulS x y).1:=by
 unfold q04_Part
 dsimp only
 rw[rmul x y h1 h2 h3 h4]
 rfl
end Go.Proofs.YtmomjjgokeffnaaGreat.F
