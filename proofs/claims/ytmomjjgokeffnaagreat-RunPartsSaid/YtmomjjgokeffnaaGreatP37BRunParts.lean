/- States: which ones may be: the program's check and the reference's. -/
import Derived.Test.YtmomjjgokeffnaaGreatP37ARunParts
import Derived.Test.YtmomjjgokeffnaaGreatP32ARunParts
set_option linter.unusedVariables false
set_option linter.unusedSimpArgs false
namespace Go.Proofs.YtmomjjgokeffnaaGreat.F
open Go.VX
open Classical
def looksF(eval:Int) (n:Nat):Int:=if eval<=0 then 0 else(n:Int) / eval
theorem looked_form(e:Nat) (he:0<e) (n:Nat):(n+1) / e=n / e+if n % e=e-1 then 1 else 0:=by
 rw[div_up n e he]
 congr 1
 have hr:=Nat.mod_lt n he
 have h:(n+1) % e=0↔n % e=e-1:=by
  rw[Nat.add_mod]
  by_cases h1:e=1
  ·subst h1;simp [Nat.mod_one]
  ·rw[Nat.mod_eq_of_lt (by omega:1<e)]
   by_cases h2:n % e+1=e
   ·rw[h2,Nat.mod_self];omega
   ·rw[Nat.mod_eq_of_lt (by omega)];omega
 by_cases k:(n+1) % e=0
 ·rw[if_pos k,if_pos (h.1 k)]
 ·rw[if_neg k,if_neg (fun x=>k (h.2 x))]
def LookedP(eval i:Int):Prop:=0<eval/\i % eval=eval-1
theorem looks_nn(eval:Int) (n:Nat):0<=looksF eval n/\looksF eval n<=n:=by
 unfold looksF
 split
 ·omega
 ·rename_i h
  exact⟨Int.ediv_nonneg (by omega) (by omega),Int.ediv_le_self _ (by omega)⟩
theorem looks_up(eval:Int) (n:Nat):looksF eval (n+1)=looksF eval n+if LookedP eval n then 1 else 0:=by
 unfold looksF
 by_cases h:eval<=0
 ·rw[if_pos h,if_pos h,if_neg (fun k=>by have:=k.1;omega)];rfl
 ·rw[if_neg h,if_neg h]
  obtain⟨e,rfl⟩:∃ k:Nat,eval=k:=⟨eval.toNat,by omega⟩
  have h1:((n+1:Nat):Int) / (e:Int)=(((n+1) / e:Nat):Int):=rfl
  have h2:(n:Int) / (e:Int)=((n / e:Nat):Int):=rfl
  have h3:(n:Int) % (e:Int)=((n % e:Nat):Int):=rfl
  rw[h1,h2,looked_form e (by omega) n]
  by_cases k:n % e=e-1
  ·rw[if_pos k,if_pos ⟨by omega,by rw[h3,k];omega⟩];rfl
  ·rw[if_neg k,if_neg (fun x=>k (by have:=x.2;rw[h3] at this;omega))];rfl
def TakenS(s:StateD):Int:=if s.2.1=3 then s.1-1 else s.1
theorem p_taken(s:StateD) (h0:-9223372036854775807<=s.1) (h1:s.1<=9223372036854775807):state_Taken (s,())=some (TakenS s):=by
 unfold state_Taken TakenS
 dsimp only
 rw[wr_id (x:=s.1-1) (by omega) (by omega)]
 by_cases h:s.2.1=3
 ·rw[decide_eq_true h,if_pos h];rfl
 ·rw[decide_eq_false h,if_neg h];rfl
def WatchOk(w:WatchD) (looks:Int):Prop:=(w.1=false/\w.2.1=0/\w.2.2.1=0)\/(w.1=true/\0<=w.2.2.1/\w.2.2.1<=1099511627776/\w.2.2.1<looks)
theorem watch_eq(w:WatchD):eqT tWatch w (false,0,0,())=decide (w.1=false/\w.2.1=0/\w.2.2.1=0):=by
 obtain⟨a,b,c,_⟩:=w
 rw[Bool.eq_iff_iff,eqT_iff tWatch rfl,decide_eq_true_eq]
 simp
theorem p_swithin(n lo hi:Int):state_within (n,lo,hi,())=some (decide (lo<=n/\n<=hi)):=by
 unfold state_within
 dsimp only
 by_cases h1:lo<=n
 ·rw[decide_eq_true (show n>=lo from h1),cnd_t,bnd_mk]
  exact congrArg some (decide_eq_decide.2 ⟨fun h=>⟨h1,h⟩,fun h=>h.2⟩)
 ·rw[decide_eq_false (show ¬ n>=lo from h1),cnd_f,bnd_mk,decide_eq_false (fun h=>h1 h.1)]
theorem p_watch(w:WatchD) (looks:Int) (h0:0<=looks) (h1:looks<=9223372036854775807):state_watch (w,looks,())=some (decide (WatchOk w looks)):=by
 unfold state_watch
 dsimp only
 rw[show eqT (.pr .bool (.pr (.int .i64) (.pr (.int .i64) .unit))) w (false,0,0,())=_ from watch_eq w,wr_id (x:=looks-1) (by omega) (by omega),p_swithin]
 cases hw:w.1 with
 | false =>
  rw[Bool.not_false,cnd_t]
  exact congrArg some (decide_eq_decide.2 (by unfold WatchOk;simp [hw]))
 | true =>
  rw[Bool.not_true,cnd_f,bnd_mk]
  refine congrArg some (decide_eq_decide.2 ?_)
  unfold WatchOk
  simp only[hw,minL,Bool.true_eq_false,false_and,false_or,true_and]
  by_cases hm:1099511627776<looks-1
  ·rw[if_pos hm];omega
  ·rw[if_neg hm];omega
def CutStOk(c:CutSD):Prop:=¬ (c.1.1=false/\¬ (c.1.2.1=0/\c.1.2.2.1=0))/\0<=c.2.1/\c.2.1<=1099511627776/\0<=c.1.2.2.1/\c.1.2.2.1<=1099511627776/\0<=c.2.2.1/\c.2.2.1<=4294967296
theorem p_platcheck(c:CutSD):plat_Check (c,())=some (decide (CutStOk c)):=by
 unfold plat_Check plat_count CutStOk
 dsimp only
 rw[show eqT (.pr .bool (.pr (.int .i64) (.pr (.int .i64) .unit))) c.1 (false,0,0,())=_ from watch_eq c.1]
 simp only[bnd_mk,cnd_if,ite_some]
 congr 1
 rw[Bool.eq_iff_iff]
 cases c.1.1
 ·by_cases h:c.1.2.1=0/\c.1.2.2.1=0
  ·simp [h]
   omega
  ·simp [h]
 ·simp
  omega
end Go.Proofs.YtmomjjgokeffnaaGreat.F
