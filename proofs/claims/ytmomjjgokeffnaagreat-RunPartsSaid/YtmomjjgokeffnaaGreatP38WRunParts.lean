/- The pieces of a step, of the program and of the reference: rules, watches, cuts, averages, what is kept, readings. -/
import Derived.Test.YtmomjjgokeffnaaGreatP38TRunParts
import Derived.Test.YtmomjjgokeffnaaGreatP0LRunParts
import Derived.Test.YtmomjjgokeffnaaGreatPIRunParts
import Derived.Test.YtmomjjgokeffnaaGreatPRRunParts
import Derived.Test.YtmomjjgokeffnaaGreatPSRunParts
import Derived.Test.YtmomjjgokeffnaaGreatPVRunParts
set_option linter.unusedVariables false
set_option linter.unusedSectionVars false
set_option linter.unusedSimpArgs false
namespace Go.Proofs.YtmomjjgokeffnaaGreat.F
open Go.VX
open Classical
theorem grow_loop{σ ρ:Type} (f:σ->Option (σ ⊕ ρ)) (st:Nat->σ) (n:Nat) (r:ρ) (s0:σ) (h0:st 0=s0) (h1:∀ k,k<n->f (st k)=some (.inl (st (k+1)))) (h2:f (st n)=some (.inr r)):loopP f s0=some r:=by
 subst h0
 have key:∀ k,k<=n->loopP f (st 0)=loopP f (st k):=by
  intro k
  induction k with
  | zero=>intro _;rfl
  | succ k ih=>intro hk;rw[ih (by omega),loopP_step (h1 k (by omega))]
 rw[key n (Nat.le_refl _),loopP_done h2]
theorem dec_no{P:Prop} {i:Decidable P} (h:¬ P):false=@decide P i:=(decide_eq_false h).symm
theorem dec_yes{P:Prop} {i:Decidable P} (h:P):true=@decide P i:=(decide_eq_true h).symm
theorem max0(d:Int):maxL d [0]=if d<0 then 0 else d:=rfl
theorem del_nn(r:RuleD):0<=DelS r:=by unfold DelS;split<;>omega
theorem del_in(r:RuleD) (h:In64 r.2.1):DelS r<=9223372036854775807:=by unfold DelS;unfold In64 at h;split<;>omega
theorem sg_pos(m:Int) (h:0<=m):0<=(Sg m false).1/\(Sg m false).1<=9223372036854775807:=by
 unfold Sg
 by_cases c:m>9223372036854775808\/(m=9223372036854775808/\false=false)
 ·rw[if_pos c];exact⟨by decide,by decide⟩
 ·rw[if_neg c,if_neg Bool.false_ne_true]
  dsimp only
  have:¬ (m=9223372036854775808):=fun k=>c (.inr ⟨k,rfl⟩)
  omega
theorem mul_pos(x y:Int) (hx:0<=x) (hy:0<=y):0<=(MulS x y).1/\(MulS x y).1<=9223372036854775807:=by
 unfold MulS
 rw[decide_eq_false (by omega:¬ x<0),decide_eq_false (by omega:¬ y<0)]
 refine sg_pos _ (rd_nonneg (by omega) (Int.mul_nonneg ?_ ?_))<;>unfold Abs<;>rw[if_neg (by omega)]<;>assumption
theorem gap_range(b:Int) (r:RuleD) (hb:In64 b) (hd:In64 r.2.1):0<=(GapV b r).1/\(GapV b r).1<=9223372036854775807:=by
 unfold GapV
 unfold In64 at hb
 have ha:=abs_b b hb.1 hb.2
 split
 ·refine mul_pos _ _ ?_ (del_nn r)
  split<;>omega
 ·exact⟨del_nn r,del_in r hd⟩
theorem p_gap(b:Int) (r:RuleD) (hb:In64 b) (hd:In64 r.2.1):better_Gap (b,r,())=some ((GapV b r).1,decide ((GapV b r).2.1=0),()):=by
 have hd0:=del_nn r
 have hd1:=del_in r hd
 unfold better_Gap GapV
 dsimp only
 rw[max0,show(if r.2.1<0 then 0 else r.2.1)=DelS r from rfl]
 unfold In64 at hb
 have ha:=abs_b b hb.1 hb.2
 cases r.2.2.1 with
 | false=>rfl
 | true =>
  rw[Bool.not_true,cnd_f,if_pos rfl,p_size b hb.1 hb.2,bnd_mk]
  have hm:minL (Abs b) [9223372036854775807]=if Abs b=9223372036854775808 then 9223372036854775807 else Abs b:=by
   simp only[minL]
   split<;>split<;>omega
  rw[hm]
  generalize hA:(if Abs b=9223372036854775808 then 9223372036854775807 else Abs b)=A
  have hA2:0<=A/\A<=9223372036854775807:=by rw[← hA];split<;>omega
  rw[wr_id (by omega) (by omega),p_fixmul A (DelS r) (by omega) (by omega) (by omega) (by omega)]
  rfl
theorem p_is(x b:Int) (r:RuleD) (hx:In64 x) (hb:In64 b) (hd:In64 r.2.1):better_Is (x,b,r,())=some (decide (IsB x b r)):=by
 have hg:=gap_range b r hb hd
 unfold better_Is better_apart
 dsimp only
 rw[p_gap b r hb hd]
 unfold IsB
 generalize (GapV b r).1=g at *
 generalize (GapV b r).2.1=e at *
 unfold In64 at hx hb
 have key:∀ hi lo:Int,-9223372036854775808<=hi->hi<=9223372036854775807->-9223372036854775808<=lo->lo<=9223372036854775807->Abs (x-b)=Abs (hi-lo) ->
   (bnd (some (wr .u64 ((wr .u64 hi)-(wr .u64 lo)),decide (hi>lo),())) fun r2:Int×Bool×Unit=>bnd (some (g,decide (e=0),())) fun r3:Int×Bool×Unit=>bnd (cnd r2.2.1 (some r3.2.1) (some false)) fun j4=>bnd (cnd j4 (some (decide (r2.1>(wr .u64 r3.1)))) (some false)) fun j5=>some j5)=some (decide (lo<hi/\e=0/\g<Abs (x-b))):=by
  intro hi lo h1 h2 h3 h4 h5
  rw[h5]
  simp only[bnd_mk,wru_mod]
  by_cases h:hi>lo
  ·rw[decide_eq_true h,cnd_t,bnd_mk]
   by_cases he:e=0
   ·rw[decide_eq_true he,cnd_t,bnd_mk]
    refine congrArg some (decide_eq_decide.2 ?_)
    unfold Abs
    rw[if_neg (by omega)]
    omega
   ·rw[decide_eq_false he,cnd_f,bnd_mk,decide_eq_false (fun k:lo<hi/\e=0/\g<Abs (hi-lo)=>he k.2.1)]
  ·rw[decide_eq_false h,cnd_f,bnd_mk,cnd_f,bnd_mk,decide_eq_false (fun k:lo<hi/\e=0/\g<Abs (hi-lo)=>h k.1)]
 cases r.1 with
 | true =>
  rw[cnd_t,bnd_mk]
  refine(key x b hx.1 hx.2 hb.1 hb.2 rfl).trans (congrArg some (decide_eq_decide.2 ?_))
  rw[if_pos rfl]
 | false =>
  rw[cnd_f,bnd_mk]
  refine(key b x hb.1 hb.2 hx.1 hx.2 (by unfold Abs;split<;>split<;>omega)).trans (congrArg some (decide_eq_decide.2 ?_))
  rw[if_neg Bool.false_ne_true]
theorem p_etake(w:WatchD) (x:Int) (r:RuleD) (hx:In64 x) (hw:In64 w.2.1) (hd:In64 r.2.1):early_Take (w,x,r,())=some (TakeW w x r):=by
 unfold early_Take TakeW
 dsimp only
 rw[p_is x w.2.1 r hx hw hd]
 have hb:wr .i64 ((minL (maxL w.2.2.1 [0]) [1099511627775])+1)=BadS w.2.2.1:=by
  rw[max0]
  simp only[minL]
  unfold BadS
  by_cases h1:w.2.2.1<0
  ·rw[if_pos h1,if_pos h1];rfl
  ·rw[if_neg h1,if_neg h1]
   by_cases h2:w.2.2.1<1099511627776
   ·rw[if_pos h2,if_neg (by omega),wr_id (by omega) (by omega)]
   ·rw[if_neg h2,if_pos (by omega)];rfl
 rw[hb]
 cases w.1 with
 | false=>rw[if_pos (.inl rfl)];rfl
 | true =>
  by_cases h:IsB x w.2.1 r
  ·rw[decide_eq_true h,if_pos (.inr h)];rfl
  ·rw[decide_eq_false h,if_neg (fun k=>k.elim (fun k=>Bool.noConfusion k) h)];rfl
theorem p_eout(w:WatchD) (n:Int):early_Out (w,n,())=some (decide (1<=n/\n<=w.2.2.1)):=by
 unfold early_Out
 dsimp only
 by_cases h:n>=1
 ·rw[decide_eq_true h]
  exact congrArg some (decide_eq_decide.2 ⟨fun k=>⟨h,k⟩,fun k=>k.2⟩)
 ·rw[decide_eq_false h,decide_eq_false (fun k:1<=n/\n<=w.2.2.1=>h k.1)];rfl
theorem p_ptake(c:CutSD) (x:Int) (cu:CutD) (hx:In64 x) (hw:In64 c.1.2.1) (hd:In64 cu.2.2.2.2.2.2.2.1) (hr:In64 c.2.1) (hs:In64 c.2.2.1) (hf:In64 cu.2.2.2.1):plat_Take (c,x,cu,())=some ((TakeC c x cu).1,(TakeC c x cu).2,()):=by
 unfold plat_Take TakeC
 dsimp only
 rw[p_etake c.1 x _ hx hw hd,bnd_mk]
 generalize TakeW c.1 x (cu.2.2.1,cu.2.2.2.2.2.2.2.1,false,())=w
 unfold In64 at hr hs hf
 by_cases h1:0<c.2.1
 ·rw[if_pos h1,decide_eq_true (show c.2.1>0 from h1),cnd_t,wr_id (by omega) (by omega)]
 rw[if_neg h1,decide_eq_false (show ¬ c.2.1>0 from h1),cnd_f,p_eout,bnd_mk]
 by_cases h2:cu.2.2.2.2.1<1\/w.2.2.1<cu.2.2.2.2.1
 ·rw[if_pos h2,decide_eq_false (by omega)];rfl
 ·rw[if_neg h2,decide_eq_true (by omega),Bool.not_true,cnd_f,p_fixmul _ _ hs.1 hs.2 hf.1 hf.2];rfl
def RateS(sc v fl:Int):Int:=if tm v sc<(if fl<v then fl else v) then(if fl<v then fl else v) else tm v sc
theorem p_prate(c:CutSD) (v fl:Int) (s0:0<=c.2.2.1) (s1:c.2.2.1<=4294967296) (v0:0<=v) (v1:v<=4503599627370496):plat_Rate (c,v,fl,())=some (RateS c.2.2.1 v fl):=by
 unfold plat_Rate RateS
 dsimp only
 rw[decide_eq_false (by omega:¬ c.2.2.1<0),decide_eq_false (by omega:¬ c.2.2.1>4294967296),p_fixmul v c.2.2.1 (by omega) (by omega) (by omega) (by omega),mul_nn v c.2.2.1 v0 v1 s0 s1]
 simp only[Bool.not_false,cnd_t,bnd_mk,cnd_f,maxL,minL]
 rfl
theorem range_succ_map{β:Type} (F:Nat->β) (k:Nat):(List.range (k+1)).map F=(List.range k).map F++[F k]:=by
 rw[List.range_succ,List.map_append];rfl
def Rng(l:List Int):Prop:=∀ x∈l,In64 x
theorem rng_nth{l:List Int} (h:Rng l) {i:Nat} (hi:i<l.length):In64 (nth 0 l i):=h _ (nth_mem hi)
theorem p_ema(a w:List Int) (d:Int) (d0:0<=d) (d1:d<=4294967296) (hl:w.length<=1000) (ha:a.length=0\/a.length=w.length) (ra:Rng a) (rw':Rng w):ema_Take (a,w,d,())=some (EmaS a w d,0,()):=by
 unfold ema_Take EmaS
 dsimp only
 rw[decide_eq_false (by omega:¬ d<0),decide_eq_false (by omega:¬ d>4294967296)]
 simp only[Bool.not_false,cnd_t,bnd_mk,cnd_f]
 by_cases h0:a.length=0
 ·rw[if_pos h0,decide_eq_true (by omega:(a.length:Int)=0),cnd_t,show slices_Clone_int_int (w,())=some w from clone_ok w _ (by omega)]
  rfl
 have ha:a.length=w.length:=by omega
 rw[if_neg h0,decide_eq_false (by omega:¬ (a.length:Int)=0),cnd_f,decide_eq_true (by omega:(a.length:Int)=(w.length:Int)),Bool.not_true,cnd_f]
 have hm:mkN 17592186044416 (w.length:Int) (0:Int)=some (List.replicate w.length 0):=by
  unfold mkN
  rw[if_pos (by omega),Int.toNat_natCast]
 rw[hm,bnd_mk]
 rw[grow_loop _ (fun k=>((k:Int),(List.range k).map (fun i=>LerpS (nth 0 w i) (nth 0 a i) d)++List.replicate (w.length-k) 0,())) w.length ((List.range w.length).map (fun i=>LerpS (nth 0 w i) (nth 0 a i) d),()) _ ?_ ?_ ?_]
 ·rfl
 ·rw[Nat.sub_zero];rfl
 ·intro k hk
  dsimp only
  have h1:=rng_nth rw' hk
  have h2:=rng_nth ra (show k<a.length by omega)
  unfold In64 at h1 h2
  rw[lt_true hk,cnd_t,ati_d 0 hk,bnd_mk,ati_d 0 (by omega:k<a.length),bnd_mk,p_lerp _ _ _ h1.1 h1.2 h2.1 h2.2 d0 d1,bnd_mk,inR_ok (by rw[List.length_replicate];exact hk),bnd_mk,ati_d 0 (by simp;omega),bnd_mk,wr_succ hk (by omega),Int.toNat_natCast,range_succ_map]
  show some _=_
  congr 4
  rw[List.append_assoc,List.set_append,if_neg (by simp),List.length_map,List.length_range,Nat.sub_self,show w.length-k=(w.length-(k+1))+1 by omega,List.replicate_succ]
  rfl
 ·dsimp only
  rw[lt_false,cnd_f,Nat.sub_self,List.replicate_zero,List.append_nil]
  rfl
theorem p_fadd(x y:Int) (hx:In64 x) (hy:In64 y):∃ r,fix_Add (x,y,())=some r/\(In64 (x+y)->r=(x+y,0,()))/\(¬ In64 (x+y)->r.2.1≠0):=by
 unfold fix_Add
 unfold In64 at *
 dsimp only
 have hw:wr .i64 (x+y)=if x+y>9223372036854775807 then x+y-18446744073709551616 else if x+y < -9223372036854775808 then x+y+18446744073709551616 else x+y:=by
  simp only[wr,IntKind.wrap,IntKind.signed,IntKind.bits,Bool.true_and,if_true]
  split<;>split<;>(try split)<;>(simp at *;omega)
 by_cases h:(x<0)↔(y<0)
 ·rw[decide_eq_true (show decide (x<0)=decide (y<0) from decide_eq_decide.2 h),cnd_t,bnd_mk]
  by_cases k:-9223372036854775808<=x+y/\x+y<=9223372036854775807
  ·rw[wr_id k.1 k.2,decide_eq_true (show decide (x+y<0)=decide (x<0) from decide_eq_decide.2 (by omega))]
   exact⟨_,rfl,fun _=>rfl,fun n=>(n k).elim⟩
  ·have hb:¬ (decide (wr .i64 (x+y)<0)=decide (x<0)):=fun e=>by
    have e:=decide_eq_decide.1 e
    rw[hw] at e
    split at e
    ·omega
    ·split at e<;>omega
   rw[decide_eq_false hb]
   exact⟨_,rfl,fun n=>(k n).elim,fun _=>by decide⟩
 ·rw[decide_eq_false (show ¬ decide (x<0)=decide (y<0) from fun e=>h (decide_eq_decide.1 e)),cnd_f,bnd_mk,cnd_f,wr_id (by omega) (by omega)]
  exact⟨_,rfl,fun _=>rfl,fun n=>by omega⟩
end Go.Proofs.YtmomjjgokeffnaaGreat.F
