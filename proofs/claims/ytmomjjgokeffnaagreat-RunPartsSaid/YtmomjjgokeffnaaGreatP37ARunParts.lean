/- States: steps taken, steps of Swa, sameness. -/
import Derived.Test.YtmomjjgokeffnaaGreatPZRunParts
set_option linter.unusedVariables false
set_option linter.unusedSimpArgs false
namespace Go.Proofs.YtmomjjgokeffnaaGreat.F
open Go.VX
open Classical
abbrev KeptD:=Int×Int×Unit
abbrev WatchD:=Bool×Int×Int×Unit
abbrev CutSD:=WatchD×Int×Int×Unit
abbrev StateD:=Int×Int×Int×WatchD×CutSD×List KeptD×List Int×(Int×List Int×Unit)×Unit
theorem len_nat{α:Type} (a b:List α):decide ((a.length:Int)=(b.length:Int))=decide (a.length=b.length):=by
 rw[decide_eq_decide];omega
abbrev tWatch:Ty:=.pr .bool (.pr (.int .i64) (.pr (.int .i64) .unit))
abbrev tCutS:Ty:=.pr tWatch (.pr (.int .i64) (.pr (.int .i64) .unit))
def SwaP(from' every:Int) (i:Int):Prop:=0<every/\from'<=i/\(i-from') % every=0
noncomputable def sumsF(from' every:Int):Nat->Int
 | 0=>0
 | n+1=>sumsF from' every n+if SwaP from' every n then 1 else 0
theorem sums_nn(from' every:Int):∀ n,0<=sumsF from' every n/\sumsF from' every n<=n
 | 0=>by simp [sumsF]
 | n+1=>by
  have:=sums_nn from' every n
  simp only[sumsF]
  split<;>omega
theorem div_up(m e:Nat) (he:0<e):(m+1) / e=m / e+if(m+1) % e=0 then 1 else 0:=by
 have hd:=Nat.div_add_mod m e
 have hr:=Nat.mod_lt m he
 generalize m / e=q at *
 generalize m % e=r at *
 subst hd
 by_cases h:r+1=e
 ·have h2:e*q+r+1=e*(q+1):=by rw[Nat.mul_add];omega
  rw[h2,Nat.mul_div_cancel_left _ he,Nat.mul_mod_right,if_pos rfl]
 ·rw[Nat.add_assoc,Nat.mul_add_div he,Nat.mul_add_mod,Nat.div_eq_of_lt (by omega),Nat.mod_eq_of_lt (by omega),if_neg (by omega)]
theorem sums_form(f e:Nat) (he:0<e):∀ n:Nat,sumsF f e n=if n<=f then 0 else(((n-1-f) / e+1:Nat):Int)
 | 0=>by simp [sumsF]
 | n+1=>by
  simp only[sumsF,sums_form f e he n]
  by_cases h:n+1<=f
  ·rw[if_pos (by omega),if_pos h,if_neg (fun k=>by have:=k.2.1;omega)];rfl
  ·rw[if_neg h]
   by_cases h2:n<=f
   ·have hn:n=f:=by omega
    subst hn
    rw[if_pos (Nat.le_refl _),if_pos ⟨by omega,by omega,by simp⟩,show n+1-1-n=0 by omega,Nat.zero_div]
    rfl
   ·rw[if_neg h2]
    obtain⟨m,hm⟩:∃ m,n-1-f=m:=⟨_,rfl⟩
    have hm2:n+1-1-f=m+1:=by omega
    rw[hm,hm2,div_up m e he]
    have hi:((n:Int)-(f:Int)) % (e:Int)=(((m+1) % e:Nat):Int):=by
     rw[show(n:Int)-(f:Int)=((m+1:Nat):Int) by omega]
     exact(Int.natCast_emod _ _).symm
    by_cases h3:(m+1) % e=0
    ·rw[if_pos ⟨by omega,by omega,by rw[hi,h3];rfl⟩,if_pos h3]
     omega
    ·rw[if_neg (fun k=>h3 (by have:=k.2.2;rw[hi] at this;omega)),if_neg h3]
     omega
theorem p_sums(p) (from' every n:Int) (hp1:p.2.2.2.2.2.2.2.2.2.2.2.2.2.2.2.1=from') (hp2:p.2.2.2.2.2.2.2.2.2.2.2.2.2.2.2.2.1=every) (h1:from'<=1099511627776) (hn:n<=1099511627776) (e1:every<=9223372036854775807) :
  state_Sums (p,n,())=some (if from'<0 then 0 else sumsF from' every n.toNat):=by
 subst hp1 hp2
 unfold state_Sums
 dsimp only
 by_cases k1:p.2.2.2.2.2.2.2.2.2.2.2.2.2.2.2.2.1<1
 ·rw[decide_eq_true k1]
  have:∀ n:Nat,sumsF p.2.2.2.2.2.2.2.2.2.2.2.2.2.2.2.1 p.2.2.2.2.2.2.2.2.2.2.2.2.2.2.2.2.1 n=0:=by
   intro n
   induction n with
   | zero=>rfl
   | succ n ih=>simp only[sumsF,ih];rw[if_neg (fun k=>by have:=k.1;omega)];rfl
  rw[this]
  simp [bnd_mk,cnd_t,cnd_f]
 ·rw[decide_eq_false k1]
  by_cases k2:p.2.2.2.2.2.2.2.2.2.2.2.2.2.2.2.1<0
  ·rw[decide_eq_true k2,if_pos k2];rfl
  ·rw[decide_eq_false k2,if_neg k2]
   generalize p.2.2.2.2.2.2.2.2.2.2.2.2.2.2.2.1=f at *
   generalize p.2.2.2.2.2.2.2.2.2.2.2.2.2.2.2.2.1=e at *
   obtain⟨f,rfl⟩:∃ k:Nat,f=k:=⟨f.toNat,by omega⟩
   obtain⟨e,rfl⟩:∃ k:Nat,e=k:=⟨e.toNat,by omega⟩
   rw[sums_form f e (by omega)]
   by_cases k3:n<=(f:Int)
   ·rw[decide_eq_true k3,if_pos (by omega)];rfl
   ·rw[decide_eq_false k3,if_neg (by omega)]
    simp only[bnd_mk,cnd_t,cnd_f,Bool.not_false,Bool.not_true]
    obtain⟨n,rfl⟩:∃ k:Nat,n=k:=⟨n.toNat,by omega⟩
    rw[Int.toNat_natCast,wr_id (x:=(n:Int)-1) (by omega) (by omega),wr_id (x:=(n:Int)-1-(f:Int)) (by omega) (by omega),show(n:Int)-1-(f:Int)=((n-1-f:Nat):Int) by omega]
    have hle:(n-1-f) / e<=n-1-f:=Nat.div_le_self _ _
    have hd2:(((n-1-f:Nat):Int)) / (e:Int)=(((n-1-f) / e:Nat):Int):=rfl
    have hq:quoI .i64 ((n-1-f:Nat):Int) (e:Int)=some (((n-1-f) / e:Nat):Int):=by
     unfold quoI
     rw[if_neg (by omega),Int.tdiv_eq_ediv_of_nonneg (by omega),hd2]
     generalize (n-1-f) / e=k at *
     show some (wr .i64 _)=_
     rw[wr_id (x:=(k:Int)) (by omega) (by omega)]
    rw[hq,bnd_mk]
    generalize (n-1-f) / e=k at *
    rw[wr_id (by omega) (by omega)]
    rfl
end Go.Proofs.YtmomjjgokeffnaaGreat.F
