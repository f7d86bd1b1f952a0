/- Words: how many bits there are; two words divided by one. -/
import Derived.Test.YtmomjjgokeffnaaGreatPFRunParts
set_option linter.unusedVariables false
set_option linter.unusedSimpArgs false
namespace Go.Proofs.YtmomjjgokeffnaaGreat.F
open Go.VX
def tab8:List Int:=[0,1,2,2,3,3,3,3,4,4,4,4,4,4,4,4,5,5,5,5,5,5,5,5,5,5,5,5,5,5,5,5,6,6,6,6,6,6,6,6,6,6,6,6,6,6,6,6,6,6,6,6,6,6,6,6,6,6,6,6,6,6,6,6,7,7,7,7,7,7,7,7,7,7,7,7,7,7,7,7,7,7,7,7,7,7,7,7,7,7,7,7,7,7,7,7,7,7,7,7,7,7,7,7,7,7,7,7,7,7,7,7,7,7,7,7,7,7,7,7,7,7,7,7,7,7,7,7,8,8,8,8,8,8,8,8,8,8,8,8,8,8,8,8,8,8,8,8,8,8,8,8,8,8,8,8,8,8,8,8,8,8,8,8,8,8,8,8,8,8,8,8,8,8,8,8,8,8,8,8,8,8,8,8,8,8,8,8,8,8,8,8,8,8,8,8,8,8,8,8,8,8,8,8,8,8,8,8,8,8,8,8,8,8,8,8,8,8,8,8,8,8,8,8,8,8,8,8,8,8,8,8,8,8,8,8,8,8,8,8,8,8,8,8,8,8,8,8,8,8,8,8,8,8,8,8]
theorem tab8_ok:∀ i:Nat,i<256->0<=nth 0 tab8 i/\nth 0 tab8 i<=8/\(i:Int)<2 ^ (nth 0 tab8 i).toNat/\(0<i->2 ^ ((nth 0 tab8 i).toNat-1)<=(i:Int)/\0<nth 0 tab8 i):=by decide +kernel
theorem shr_lt{x:Int} {n k:Nat} (h0:0<=x) (h:x / 2 ^ k<2 ^ n):x<2 ^ (n+k):=by
 have hP:(0:Int)<2 ^ k:=Int.pow_pos (by omega)
 have:=Int.lt_mul_of_ediv_lt hP h
 rw[Int.pow_add];exact this
theorem shr_le{x:Int} {n k:Nat} (h:2 ^ n<=x / 2 ^ k):2 ^ (n+k)<=x:=by
 have hP:(0:Int)<2 ^ k:=Int.pow_pos (by omega)
 have:=Int.mul_le_of_le_ediv hP h
 rw[Int.pow_add];exact this
theorem len64_eq(x:Int):bits_Len64 (x,())=(bnd (cnd (decide (x>=4294967296)) (some (Int.fdiv x (2 ^ 32),32,())) (some (x,0,()))) fun j1=>bnd (cnd (decide (j1.1>=65536)) (some (Int.fdiv j1.1 (2 ^ 16),wr .i64 (j1.2.1+16),())) (some (j1.1,j1.2.1,()))) fun j2=>bnd (cnd (decide (j2.1>=256)) (some (Int.fdiv j2.1 (2 ^ 8),wr .i64 (j2.2.1+8),())) (some (j2.1,j2.2.1,()))) fun j3=>bnd (ati tab8 (wr .u8 j3.1)) fun v4=>some (wr .i64 (j3.2.1+(wr .i64 v4)))):=rfl
theorem len64(x:Int) (h0:0<x) (h1:x<18446744073709551616):∃ n:Nat,bits_Len64 (x,())=some (n:Int)/\1<=n/\n<=64/\x<2 ^ n/\2 ^ (n-1)<=x:=by
 have key:∀ (z:Int) (k:Nat),z=x / 2 ^ k->0<z->z<256->k<=56->∃ n:Nat,(bnd (ati tab8 (wr .u8 z)) fun v4=>some (wr .i64 ((k:Int)+(wr .i64 v4))))=some (n:Int)/\1<=n/\n<=64/\x<2 ^ n/\2 ^ (n-1)<=x:=by
  intro z k hz z0 z1 hk
  have e:wr .u8 z=z:=by
   simp only[wr,IntKind.wrap,IntKind.signed,IntKind.bits]
   simp at *;omega
  obtain⟨m,rfl⟩:∃ m:Nat,z=m:=⟨z.toNat,by omega⟩
  have ht:=tab8_ok m (by omega)
  have hl:tab8.length=256:=by decide +kernel
  rw[e,ati_d 0 (by omega),bnd_mk]
  generalize nth 0 tab8 m=t at *
  obtain⟨t,rfl⟩:∃ n:Nat,t=n:=⟨t.toNat,by omega⟩
  rw[Int.toNat_natCast] at ht
  refine⟨t+k,?_,by omega,by omega,?_,?_⟩
  ·rw[wr_id (x:=(t:Int)) (by omega) (by omega),wr_id (by omega) (by omega)];congr 1;omega
  ·exact shr_lt (by omega) (by rw[← hz];exact ht.2.2.1)
  ·rw[show t+k-1=(t-1)+k by omega]
   exact shr_le (by rw[← hz];exact(ht.2.2.2 (by omega)).1)
 rw[len64_eq]
 simp only[show(2:Int) ^ 32=4294967296 from rfl,show(2:Int) ^ 16=65536 from rfl,show(2:Int) ^ 8=256 from rfl,fdiv_pos 4294967296 (by omega),fdiv_pos 65536 (by omega),fdiv_pos 256 (by omega)]
 by_cases c1:x>=4294967296
 ·rw[decide_eq_true c1,cnd_t,bnd_mk]
  dsimp only
  by_cases c2:x / 4294967296>=65536
  ·rw[decide_eq_true c2,cnd_t,bnd_mk]
   dsimp only
   by_cases c3:x / 4294967296 / 65536>=256
   ·rw[decide_eq_true c3,cnd_t,bnd_mk]
    obtain⟨n,e,h⟩:=key (x / 4294967296 / 65536 / 256) 56 (by rw[show(2:Int) ^ 56=72057594037927936 from rfl];omega) (by omega) (by omega) (by omega)
    exact⟨n,e,h⟩
   ·rw[decide_eq_false c3,cnd_f,bnd_mk]
    obtain⟨n,e,h⟩:=key (x / 4294967296 / 65536) 48 (by rw[show(2:Int) ^ 48=281474976710656 from rfl];omega) (by omega) (by omega) (by omega)
    exact⟨n,e,h⟩
  ·rw[decide_eq_false c2,cnd_f,bnd_mk]
   dsimp only
   by_cases c3:x / 4294967296>=256
   ·rw[decide_eq_true c3,cnd_t,bnd_mk]
    obtain⟨n,e,h⟩:=key (x / 4294967296 / 256) 40 (by rw[show(2:Int) ^ 40=1099511627776 from rfl];omega) (by omega) (by omega) (by omega)
    exact⟨n,e,h⟩
   ·rw[decide_eq_false c3,cnd_f,bnd_mk]
    obtain⟨n,e,h⟩:=key (x / 4294967296) 32 (by rw[show(2:Int) ^ 32=4294967296 from rfl]) (by omega) (by omega) (by omega)
    exact⟨n,e,h⟩
 ·rw[decide_eq_false c1,cnd_f,bnd_mk]
  dsimp only
  by_cases c2:x>=65536
  ·rw[decide_eq_true c2,cnd_t,bnd_mk]
   dsimp only
   by_cases c3:x / 65536>=256
   ·rw[decide_eq_true c3,cnd_t,bnd_mk]
    obtain⟨n,e,h⟩:=key (x / 65536 / 256) 24 (by rw[show(2:Int) ^ 24=16777216 from rfl];omega) (by omega) (by omega) (by omega)
    exact⟨n,e,h⟩
   ·rw[decide_eq_false c3,cnd_f,bnd_mk]
    obtain⟨n,e,h⟩:=key (x / 65536) 16 (by rw[show(2:Int) ^ 16=65536 from rfl]) (by omega) (by omega) (by omega)
    exact⟨n,e,h⟩
  ·rw[decide_eq_false c2,cnd_f,bnd_mk]
   dsimp only
   by_cases c3:x>=256
   ·rw[decide_eq_true c3,cnd_t,bnd_mk]
    obtain⟨n,e,h⟩:=key (x / 256) 8 (by rw[show(2:Int) ^ 8=256 from rfl]) (by omega) (by omega) (by omega)
    exact⟨n,e,h⟩
   ·rw[decide_eq_false c3,cnd_f,bnd_mk]
    obtain⟨n,e,h⟩:=key x 0 (by simp) (by omega) (by omega) (by omega)
    exact⟨n,e,h⟩
theorem lead64(x:Int) (h0:0<x) (h1:x<18446744073709551616):∃ s:Nat,bits_LeadingZeros64 (x,())=some (s:Int)/\s<=63/\x*2 ^ s<18446744073709551616/\9223372036854775808<=x*2 ^ s:=by
 unfold bits_LeadingZeros64
 dsimp only
 obtain⟨n,e,k1,k2,k3,k4⟩:=len64 x h0 h1
 refine⟨64-n,by rw[e,bnd_mk,wr_id (by omega) (by omega)];congr 1;omega,by omega,?_,?_⟩
 ·have hP:(0:Int)<2 ^ (64-n):=Int.pow_pos (by omega)
  have h:=Int.mul_lt_mul_of_pos_right k3 hP
  rw[← Int.pow_add,show n+(64-n)=64 by omega] at h
  exact h
 ·have hP:(0:Int)<2 ^ (64-n):=Int.pow_pos (by omega)
  have h:=Int.mul_le_mul_of_nonneg_right k4 (Int.le_of_lt hP)
  rw[← Int.pow_add,show n-1+(64-n)=63 by omega] at h
  exact h
end Go.Proofs.YtmomjjgokeffnaaGreat.F
