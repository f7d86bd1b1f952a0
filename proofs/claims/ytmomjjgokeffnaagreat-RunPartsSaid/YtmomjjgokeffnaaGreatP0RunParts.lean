/- Words of 64 bits, quotients that are rounded, and what a loop does at a step. -/
import Derived.Test.YtmomjjgokeffnaaGreatVx3
set_option linter.unusedVariables false
set_option linter.unusedSimpArgs false
namespace Go.Proofs.YtmomjjgokeffnaaGreat.F
open Go.VX
theorem wru_id{x:Int} (h1:0<=x) (h2:x<18446744073709551616):wr .u64 x=x:=by
 simp only[wr,IntKind.wrap,IntKind.signed,IntKind.bits]
 simp at *;omega
theorem wru_mod(x:Int):wr .u64 x=x % 18446744073709551616:=by
 simp only[wr,IntKind.wrap,IntKind.signed,IntKind.bits]
 simp
def Abs(x:Int):Int:=if x<0 then -x else x
theorem loopP_step{σ ρ:Type} {f:σ->Option (σ ⊕ ρ)} {s s':σ} (h:f s=some (.inl s')):loopP f s=loopP f s':=by
 cases hr:loopP f s' with
 | some r =>
  obtain⟨n,hn⟩:∃ n,loopN f n s'=some r:=by
   unfold loopP at hr
   split at hr
   ·exact⟨_,hr⟩
   ·cases hr
  exact loopP_of (n:=n+1) (by simp only[loopN,h,hn])
 | none =>
  cases hs:loopP f s with
  | none=>rfl
  | some r =>
   obtain⟨n,hn⟩:∃ n,loopN f n s=some r:=by
    unfold loopP at hs
    split at hs
    ·exact⟨_,hs⟩
    ·cases hs
   cases n with
   | zero=>cases hn
   | succ n =>
    simp only[loopN,h] at hn
    rw[loopP_of hn] at hr
    cases hr
theorem loopP_done{σ ρ:Type} {f:σ->Option (σ ⊕ ρ)} {s:σ} {r:ρ} (h:f s=some (.inr r)):loopP f s=some r :=
 loopP_of (n:=1) (by simp only[loopN,h])
theorem inR_ok{n i:Nat} (h:i<n):inR n (i:Int)=some (i:Int):=by
 simp only[inR]
 rw[if_pos (by omega)]
def Rd(n d:Int):Int:=if 2*(n % d)>d\/(2*(n % d)=d/\n / d % 2=1) then n / d+1 else n / d
theorem rd_le(n d:Int) (h:0<d) (hn:0<=n):0<=Rd n d/\Rd n d<=n / d+1:=by
 have:=Int.ediv_nonneg hn (Int.le_of_lt h)
 unfold Rd
 split<;>omega
def Sg(m:Int) (neg:Bool):Int×Int×Unit:=if m>9223372036854775808\/(m=9223372036854775808/\neg=false) then(0,4,()) else(if neg=true then -m else m,0,())
def MulS(x y:Int):Int×Int×Unit:=Sg (Rd (Abs x*Abs y) 4294967296) (!decide (decide (x<0)=decide (y<0)))
theorem and_low{x:Int} (h0:0<=x) (h1:x<18446744073709551616):bitI .and .u64 x 4294967295=x % 4294967296:=by
 have e:(BitVec.ofInt 64 x &&& BitVec.ofInt 64 4294967295).toNat=(x % 4294967296).toNat:=by
  rw[BitVec.toNat_and,BitVec.toNat_ofInt,BitVec.toNat_ofInt]
  rw[show((4294967295:Int) % ((2 ^ 64:Nat):Int)).toNat=2 ^ 32-1 from rfl,Nat.and_two_pow_sub_one_eq_mod]
  rw[show((2 ^ 64:Nat):Int)=18446744073709551616 from rfl,show 2 ^ 32=4294967296 from rfl]
  omega
 show wr .u64 ((BitVec.ofInt 64 x &&& BitVec.ofInt 64 4294967295).toNat:Int)=_
 rw[e,wru_id (by omega) (by omega)]
 omega
theorem or_add{x y:Int} (k:Nat) (hk:k<=64) (h0:0<=x) (h1:x*2 ^ k+y<18446744073709551616) (h2:0<=y) (h3:y<2 ^ k):bitI .or .u64 (x*2 ^ k) y=x*2 ^ k+y:=by
 have hP:(0:Int)<2 ^ k:=Int.pow_pos (by omega)
 have hx:0<=x*2 ^ k:=Int.mul_nonneg h0 (by omega)
 have e:(BitVec.ofInt 64 (x*2 ^ k) ||| BitVec.ofInt 64 y).toNat=(x*2 ^ k+y).toNat:=by
  rw[BitVec.toNat_or,BitVec.toNat_ofInt,BitVec.toNat_ofInt,show((2 ^ 64:Nat):Int)=18446744073709551616 from rfl]
  rw[Int.emod_eq_of_lt hx (by omega),Int.emod_eq_of_lt h2 (by omega)]
  have hy:y.toNat<2 ^ k:=by
   have:((2 ^ k:Nat):Int)=2 ^ k:=by simp
   omega
  have hxn:(x*2 ^ k).toNat=2 ^ k*x.toNat:=by
   rw[Int.toNat_mul h0 (by omega),Nat.mul_comm,Int.toNat_pow_of_nonneg (by omega)]
   rfl
  rw[hxn,← Nat.two_pow_add_eq_or_of_lt hy,← hxn]
  omega
 show wr .u64 ((BitVec.ofInt 64 (x*2 ^ k) ||| BitVec.ofInt 64 y).toNat:Int)=_
 rw[e,wru_id (by omega) (by omega)]
 omega
theorem fdiv_pos{x:Int} (n:Int) (h:0<=n):Int.fdiv x n=x / n:=Int.fdiv_eq_ediv_of_nonneg x h
theorem abs_b(x:Int) (h0:-9223372036854775808<=x) (h1:x<=9223372036854775807):0<=Abs x/\Abs x<=9223372036854775808:=by
 unfold Abs;split<;>omega
def NearS(n hi d:Int):Int×Int×Unit:=if d=0 then(0,5,()) else if d<=hi then(0,4,()) else if Rd n d=18446744073709551616 then(0,4,()) else(Rd n d,0,())
theorem shl_u{x:Int} {s:Nat} (hs:s<=64):shlI .u64 x (wr .u64 (s:Int))=some (wr .u64 (x*2 ^ s)):=by
 rw[wru_id (by omega) (by omega)]
 simp only[shlI]
 rw[if_neg (by omega),Int.toNat_natCast]
 congr 3
 rw[show min s (IntKind.bits .u64)=s from Nat.min_eq_left hs]
theorem shr_u{x:Int} {s:Nat} (hs:s<=64) (h0:0<=x):shrI .u64 x (wr .u64 (s:Int))=some (x / 2 ^ s):=by
 rw[wru_id (by omega) (by omega)]
 simp only[shrI]
 rw[if_neg (by omega),Int.toNat_natCast,show min s (IntKind.bits .u64)=s from Nat.min_eq_left hs,fdiv_pos _ (Int.le_of_lt (Int.pow_pos (by omega)))]
theorem quo_u{x y:Int} (h0:0<=x) (h1:x<18446744073709551616) (hy:0<y):quoI .u64 x y=some (x / y):=by
 simp only[quoI]
 rw[if_neg (by omega),Int.tdiv_eq_ediv_of_nonneg h0]
 have:x / y<=x:=Int.ediv_le_self _ h0
 have:=Int.ediv_nonneg h0 (by omega:0<=y)
 show some (wr .u64 (x / y))=_
 rw[wru_id (by omega) (by omega)]
theorem rem_u{x y:Int} (h0:0<=x) (hy:0<y):remI x y=some (x % y):=by
 simp only[remI]
 rw[if_neg (by omega),Int.tmod_eq_emod_of_nonneg h0]
end Go.Proofs.YtmomjjgokeffnaaGreat.F
