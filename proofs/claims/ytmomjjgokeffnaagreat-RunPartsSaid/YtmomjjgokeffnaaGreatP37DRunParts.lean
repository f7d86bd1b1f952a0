/- States: which ones any plan has: the program's check and the reference's. -/
import Derived.Test.YtmomjjgokeffnaaGreatP37CRunParts
set_option linter.unusedVariables false
set_option linter.unusedSectionVars false
set_option linter.unusedSimpArgs false
namespace Go.Proofs.YtmomjjgokeffnaaGreat.F
open Go.VX
open Classical
theorem looked_next(eval i:Int) (h:0<eval):(i+1) % eval=0↔LookedP eval i:=by
 unfold LookedP
 have h1:=Int.emod_add_mul_ediv i eval
 have h2:=Int.emod_nonneg i (by omega:eval≠0)
 have h3:=Int.emod_lt_of_pos i h
 by_cases k:i % eval=eval-1
 ·have e:i+1=eval*(i / eval+1):=by rw[Int.mul_add];omega
  rw[e,Int.mul_emod_right]
  exact⟨fun _=>⟨h,k⟩,fun _=>rfl⟩
 ·have e:i+1=(i % eval+1)+eval*(i / eval):=by omega
  have f:(i+1) % eval=i % eval+1:=by
   conv=>lhs;rw[e]
   rw[Int.add_mul_emod_self_left,Int.emod_eq_of_lt (by omega) (by omega)]
  rw[f]
  exact⟨fun h=>by omega,fun h=>(k h.2).elim⟩
theorem kcontains(l:List KpD) (P:KpD->Prop) (f:((Int×(Int×Unit))×Unit)->Option Bool) (hl:l.length<=9223372036854775807) (hf:∀ v,v∈l->f (v,())=some (decide (P v))) :
  slices_ContainsFunc_Kept (l,f,())=some (decide (∃ i,i<l.length/\P (nth zKp l i))):=by
 unfold slices_ContainsFunc_Kept slices_IndexFunc_Kept
 dsimp only
 obtain⟨r,e,h⟩:=loop_rule (ρ:=Unit ⊕ Int) (f:=(fun(s2:Int×Unit)=>cnd (decide (s2.1<(l.length:Int))) (bnd (ati l s2.1) fun v3=>bnd (f (v3,())) fun r4=>cnd r4 (inrE (inrE (some s2.1))) (inlE (wr .i64 (s2.1+1),()))) (inrE (inlE (())))))
  (fun s=>0<=s.1/\s.1<=l.length/\∀ i:Nat,(i:Int)<s.1->¬ P (nth zKp l i)) (fun s=>l.length-s.1.toNat)
  (fun r=>(r=.inl ()/\∀ i,i<l.length->¬ P (nth zKp l i))\/(∃ i:Nat,r=.inr (i:Int)/\i<l.length/\P (nth zKp l i))) (fun s ⟨i0,i1,i2⟩=>by
   obtain⟨i,_⟩:=s
   dsimp only at i0 i1 i2 ⊢
   obtain⟨k,rfl⟩:∃ k:Nat,i=k:=⟨i.toNat,by omega⟩
   by_cases hk:k<l.length
   ·rw[lt_true hk,cnd_t,ati_d zKp hk,bnd_mk,hf _ (nth_mem hk),bnd_mk,wr_succ hk hl]
    by_cases hp:P (nth zKp l k)
    ·right
     rw[decide_eq_true hp]
     exact⟨.inr (k:Int),rfl,.inr ⟨k,rfl,hk,hp⟩⟩
    ·left
     rw[decide_eq_false hp]
     refine⟨_,rfl,⟨by dsimp only;omega,by dsimp only;omega,fun j hj=>?_⟩,by dsimp only;omega⟩
     dsimp only at hj
     by_cases hjk:j=k
     ·subst hjk;exact hp
     ·exact i2 j (by omega)
   ·right
    have hkn:k=l.length:=by omega
    subst hkn
    rw[lt_false,cnd_f]
    exact⟨_,rfl,.inl ⟨rfl,fun i hi=>i2 i (by omega)⟩⟩) (0,()) ⟨by dsimp only;omega,by dsimp only;omega,fun i hi=>by dsimp only at hi;omega⟩
 rw[e]
 rcases h with⟨rfl,h⟩ | ⟨i,rfl,hi,hp⟩
 ·rw[bndS_l,bnd_mk,decide_eq_false (show ¬ (-1:Int)>=0 by omega),decide_eq_false (fun⟨i,hi,hp⟩=>h i hi hp)]
 ·rw[bndS_r,bnd_mk,decide_eq_true (by omega:(i:Int)>=0),decide_eq_true ⟨i,hi,hp⟩]
section
variable (a0 a1 a2 a3 a4:Int) (sp:List SpanD) (fz:List (List Bool)) (tr:List TrackD) (st:StopD) (cu:CutD) (ke:KeepD) (em:Bool×Int×Unit) (o1 o2 o3 sf se:Int) (s:StateD)
def LooksS:Int:=looksF a4 (TakenS s).toNat
def StopSt:Prop:=(o1=-1/\eqT (.pr .bool (.pr (.int .i64) (.pr (.int .i64) .unit))) s.2.2.2.1 (false,0,0,())=true)\/(o1≠-1/\WatchOk s.2.2.2.1 (LooksS a4 s))
def CutSt:Prop:=(o2=-1/\eqT (.pr (.pr .bool (.pr (.int .i64) (.pr (.int .i64) .unit))) (.pr (.int .i64) (.pr (.int .i64) .unit))) s.2.2.2.2.1 ((false,0,0,()),0,4294967296,())=true)\/(o2≠-1/\CutStOk s.2.2.2.2.1/\WatchOk s.2.2.2.2.1.1 (LooksS a4 s)/\s.2.2.2.2.1.1.2.2.1<cu.2.2.2.2.1/\s.2.2.2.2.1.2.1<=cu.2.2.2.2.2.1)
def StepOkK(v:KpD):Prop:=0<=v.1/\v.1<TakenS s/\LookedP a4 v.1
def BadK(v:KpD):Prop:=¬ StepOkK a4 s v
def KeptSt:Prop:=(o3=-1/\s.2.2.2.2.2.1.length=0)\/(o3≠-1/\(s.2.2.2.2.2.1.length:Int)<=LooksS a4 s/\KeptOk s.2.2.2.2.2.1 ke.2.2.2.1 ke.2.2.1/\∀ i,i<s.2.2.2.2.2.1.length->StepOkK a4 s (nth zKp s.2.2.2.2.2.1 i))
def AvgSt:Prop:=(s.2.2.2.2.2.2.1.length:Int)=(if em.1=true/\0<TakenS s then a1 else 0)/\s.2.2.2.2.2.2.2.1.1=sumsF sf se (TakenS s).toNat/\(s.2.2.2.2.2.2.2.1.2.1.length:Int)=(if 0<sumsF sf se (TakenS s).toNat then a1 else 0)
def StateOk:Prop:=StatusOk a0 a4 st o1 sf se s/\StopSt a4 o1 s/\CutSt a4 cu o2 s/\KeptSt a4 ke o3 s/\AvgSt a1 em sf se s
theorem status_range(h:StatusOk a0 a4 st o1 sf se s):0<=s.1/\s.1<=a0/\0<=TakenS s/\TakenS s<=a0:=by
 unfold StatusOk at h
 unfold TakenS
 split<;>omega
theorem p_looks(h4:0<=a4) (t0:0<=TakenS s) (t1:TakenS s<=1000000) (s0:0<=s.1) (s1:s.1<=1000000):state_looks ((a0,a1,a2,a3,a4,sp,fz,tr,st,cu,ke,em,o1,o2,o3,sf,se,()),s,())=some (LooksS a4 s):=by
 unfold state_looks LooksS looksF
 dsimp only
 by_cases k:a4=0
 ·rw[decide_eq_true k,cnd_t,if_pos (by omega)]
 ·rw[decide_eq_false k,cnd_f,if_neg (by omega),p_taken s (by omega) (by omega),bnd_mk]
  unfold quoI
  have h1:0<=TakenS s / a4:=Int.ediv_nonneg t0 h4
  have h2:TakenS s / a4<=TakenS s:=Int.ediv_le_self _ t0
  rw[if_neg k,Int.tdiv_eq_ediv_of_nonneg t0,show IntKind.wrap .i64 (TakenS s / a4)=TakenS s / a4 from wr_id (by omega) (by omega),bnd_mk,Int.toNat_of_nonneg t0]
theorem looks_range(t1:TakenS s<=1000000):0<=LooksS a4 s/\LooksS a4 s<=1000000:=by
 unfold LooksS
 have:=looks_nn a4 (TakenS s).toNat
 omega
theorem p_ststop(hst:StopOk a2 a4 o1 st) (h4:0<=a4) (t0:0<=TakenS s) (t1:TakenS s<=1000000) (s0:0<=s.1) (s1:s.1<=1000000):state_stop ((a0,a1,a2,a3,a4,sp,fz,tr,st,cu,ke,em,o1,o2,o3,sf,se,()),s,())=some (decide (StopSt a4 o1 s)):=by
 unfold state_stop
 dsimp only
 have hc:o1=-1\/0<=o1:=by unfold StopOk SeenOk at hst;omega
 have hr:=looks_range a4 s t1
 rcases hc with k | k
 ·rw[decide_eq_true (by omega:o1<0),cnd_t]
  congr 1
  rw[Bool.eq_iff_iff,decide_eq_true_eq]
  exact⟨fun h=>.inl ⟨k,h⟩,fun h=>by rcases h with h | h;exact h.2;exact(h.1 k).elim⟩
 ·rw[decide_eq_false (by omega:¬ o1<0),cnd_f,p_looks a0 a1 a2 a3 a4 sp fz tr st cu ke em o1 o2 o3 sf se s h4 t0 t1 s0 s1,bnd_mk,p_watch _ _ hr.1 (by omega),bnd_mk]
  exact congrArg some (decide_eq_decide.2 ⟨fun h=>.inr ⟨by omega,h⟩,fun h=>by rcases h with h | h;omega;exact h.2⟩)
theorem p_stcut(hcu:CutOk a2 a4 o2 cu) (h4:0<=a4) (t0:0<=TakenS s) (t1:TakenS s<=1000000) (s0:0<=s.1) (s1:s.1<=1000000):state_cut ((a0,a1,a2,a3,a4,sp,fz,tr,st,cu,ke,em,o1,o2,o3,sf,se,()),s,())=some (decide (CutSt a4 cu o2 s)):=by
 unfold state_cut plat_New
 dsimp only
 have hc:o2=-1\/0<=o2:=by unfold CutOk SeenOk at hcu;omega
 have hr:=looks_range a4 s t1
 rcases hc with k | k
 ·rw[decide_eq_true (by omega:o2<0),cnd_t,bnd_mk]
  congr 1
  rw[Bool.eq_iff_iff,decide_eq_true_eq]
  exact⟨fun h=>.inl ⟨k,h⟩,fun h=>by rcases h with h | h;exact h.2;exact(h.1 k).elim⟩
 ·rw[decide_eq_false (by omega:¬ o2<0),cnd_f,p_looks a0 a1 a2 a3 a4 sp fz tr st cu ke em o1 o2 o3 sf se s h4 t0 t1 s0 s1,p_platcheck]
  simp only[bnd_mk,p_watch _ _ hr.1 (by omega:LooksS a4 s<=9223372036854775807),cnd_some_and]
  congr 1
  rw[Bool.eq_iff_iff]
  simp only[Bool.and_eq_true,decide_eq_true_eq]
  constructor
  ·rintro⟨⟨⟨h1,h2⟩,h3⟩,h5⟩;exact .inr ⟨by omega,h1,h2,h3,h5⟩
  ·rintro(h | ⟨_,h1,h2,h3,h5⟩)
   ·omega
   ·exact⟨⟨⟨h1,h2⟩,h3⟩,h5⟩
theorem p_stkept(hke:KeepOk a2 a4 o3 ke) (h4:0<=a4) (t0:0<=TakenS s) (t1:TakenS s<=1000000) (s0:0<=s.1) (s1:s.1<=1000000) (hl:s.2.2.2.2.2.1.length<=9223372036854775807) (hk:KRange s.2.2.2.2.2.1):state_kept ((a0,a1,a2,a3,a4,sp,fz,tr,st,cu,ke,em,o1,o2,o3,sf,se,()),s,())=some (decide (KeptSt a4 ke o3 s)):=by
 unfold state_kept
 dsimp only
 have hc:o3=-1\/(0<=o3/\0<a4):=by unfold KeepOk SeenOk at hke;omega
 rcases hc with k | ⟨k,k4⟩
 ·rw[decide_eq_true (by omega:o3<0),cnd_t]
  exact congrArg some (decide_eq_decide.2 ⟨fun h=>.inl ⟨k,by omega⟩,fun h=>by rcases h with h | h;exact(by have:=h.2;omega);exact(h.1 k).elim⟩)
 ·rw[decide_eq_false (by omega:¬ o3<0),cnd_f,p_looks a0 a1 a2 a3 a4 sp fz tr st cu ke em o1 o2 o3 sf se s h4 t0 t1 s0 s1,bnd_mk,p_bestcheck _ _ _ hl hk]
  by_cases k1:(s.2.2.2.2.2.1.length:Int)>LooksS a4 s
  ·rw[decide_eq_true k1,decide_eq_false (fun h:KeptSt a4 ke o3 s=>by
    rcases h with h | h
    ·omega
    ·have:=h.2.1;omega)]
   rfl
  rw[decide_eq_false k1]
  by_cases k2:KeptOk s.2.2.2.2.2.1 ke.2.2.2.1 ke.2.2.1
  ·rw[decide_eq_true k2]
   simp only[bnd_mk,cnd_t,cnd_f,Bool.not_true,Bool.not_false]
   rw[kcontains _ (BadK a4 s) _ hl ?_,bnd_mk]
   ·refine congrArg some ?_
    rw[Bool.eq_iff_iff,Bool.not_eq_true',decide_eq_false_iff_not,decide_eq_true_eq]
    constructor
    ·intro h
     refine .inr ⟨by omega,by omega,k2,fun i hi=>?_⟩
     exact Classical.byContradiction fun hn=>h ⟨i,hi,hn⟩
    ·rintro(h | ⟨_,_,_,h⟩) ⟨i,hi,hn⟩
     ·omega
     ·exact hn (h i hi)
   ·intro v hv
    dsimp only
    unfold state_kept_1
    dsimp only
    rw[p_taken s (by omega) (by omega),bnd_mk,wr_id (x:=TakenS s-1) (by omega) (by omega),p_swithin,bnd_mk]
    by_cases hw:0<=v.1/\v.1<=TakenS s-1
    ·have hm:remI (wr .i64 (v.1+1)) a4=some ((v.1+1) % a4):=by
      unfold remI
      rw[if_neg (by omega),wr_id (by omega) (by omega),Int.tmod_eq_emod_of_nonneg (by omega)]
     rw[decide_eq_true hw,hm]
     simp only[bnd_mk,cnd_t,cnd_f,Bool.not_true,Bool.not_false]
     congr 1
     rw[Bool.eq_iff_iff,Bool.not_eq_true',decide_eq_false_iff_not,decide_eq_true_eq,looked_next a4 v.1 k4]
     unfold BadK StepOkK
     constructor
     ·intro h h2;exact h h2.2.2
     ·intro h h2;exact h ⟨hw.1,by omega,h2⟩
    ·rw[decide_eq_false hw]
     simp only[bnd_mk,cnd_t,cnd_f,Bool.not_true,Bool.not_false]
     rw[decide_eq_true (show BadK a4 s v from fun h:StepOkK a4 s v=>hw ⟨h.1,by have:=h.2.1;omega⟩)]
  ·rw[decide_eq_false k2,decide_eq_false (fun h:KeptSt a4 ke o3 s=>by
    rcases h with h | h
    ·omega
    ·exact k2 h.2.2.1)]
   rfl
theorem p_stavg(hav:AvgOk a0 sf se em) (ha:a0<=1000000) (t0:0<=TakenS s) (t1:TakenS s<=1000000) (s0:0<=s.1) (s1:s.1<=1000000):state_averages ((a0,a1,a2,a3,a4,sp,fz,tr,st,cu,ke,em,o1,o2,o3,sf,se,()),s,())=some (decide (AvgSt a1 em sf se s)):=by
 have hr:0<=sf/\sf<=1000000/\se<=1099511627776:=by
  unfold AvgOk at hav
  omega
 unfold state_averages state_long
 dsimp only
 rw[p_taken s (by omega) (by omega),bnd_mk,p_sums _ sf se (TakenS s) rfl rfl (by omega) (by omega) (by omega),if_neg (by omega)]
 unfold AvgSt
 simp only[bnd_mk]
 by_cases k1:em.1=true
 ·by_cases k2:0<TakenS s
  ·by_cases k3:0<sumsF sf se (TakenS s).toNat
   ·rw[k1,if_pos ⟨rfl,k2⟩,if_pos k3,decide_eq_true (show TakenS s>0 from k2)]
    simp only[bnd_mk,cnd_t,cnd_f,decide_eq_true (show sumsF sf se (TakenS s).toNat>0 from k3),cnd_some_and]
    congr 1
    rw[Bool.eq_iff_iff]
    simp only[Bool.and_eq_true,decide_eq_true_eq,and_assoc]
   ·rw[k1,if_pos ⟨rfl,k2⟩,if_neg k3,decide_eq_true (show TakenS s>0 from k2)]
    simp only[bnd_mk,cnd_t,cnd_f,decide_eq_false (show ¬ sumsF sf se (TakenS s).toNat>0 from k3),cnd_some_and]
    congr 1
    rw[Bool.eq_iff_iff]
    simp only[Bool.and_eq_true,decide_eq_true_eq,and_assoc]
  ·have k3:¬ 0<sumsF sf se (TakenS s).toNat:=by
    have:=sums_nn sf se (TakenS s).toNat
    omega
   rw[k1,if_neg (fun h=>k2 h.2),if_neg k3,decide_eq_false (show ¬ TakenS s>0 from k2)]
   simp only[bnd_mk,cnd_t,cnd_f,decide_eq_false (show ¬ sumsF sf se (TakenS s).toNat>0 from k3),cnd_some_and]
   congr 1
   rw[Bool.eq_iff_iff]
   simp only[Bool.and_eq_true,decide_eq_true_eq,and_assoc]
 ·have k1':em.1=false:=by simpa using k1
  by_cases k3:0<sumsF sf se (TakenS s).toNat
  ·rw[k1',if_neg (fun h=>Bool.false_ne_true h.1),if_pos k3]
   simp only[bnd_mk,cnd_t,cnd_f,decide_eq_true (show sumsF sf se (TakenS s).toNat>0 from k3),cnd_some_and]
   congr 1
   rw[Bool.eq_iff_iff]
   simp only[Bool.and_eq_true,decide_eq_true_eq,and_assoc]
  ·rw[k1',if_neg (fun h=>Bool.false_ne_true h.1),if_neg k3]
   simp only[bnd_mk,cnd_t,cnd_f,decide_eq_false (show ¬ sumsF sf se (TakenS s).toNat>0 from k3),cnd_some_and]
   congr 1
   rw[Bool.eq_iff_iff]
   simp only[Bool.and_eq_true,decide_eq_true_eq,and_assoc]
theorem p_state(hs:sp.length<=9223372036854775807) (hf:fz.length<=9223372036854775807) (ht:tr.length<=9223372036854775807) (hg:∀ t∈tr,t.2.2.1.length<=9223372036854775807) (hl:s.2.2.2.2.2.1.length<=9223372036854775807) (hk:KRange s.2.2.2.2.2.1) (hi:In64 s.1) :
  state_Check ((a0,a1,a2,a3,a4,sp,fz,tr,st,cu,ke,em,o1,o2,o3,sf,se,()),s,())=some (if PlanOk a0 a1 a2 a3 a4 sp fz tr st cu ke em o1 o2 o3 sf se/\StateOk a0 a1 a4 st cu ke em o1 o2 o3 sf se s then 0 else 1):=by
 unfold state_Check
 dsimp only
 rw[p_plan _ _ _ _ _ _ _ _ _ _ _ _ _ _ _ _ _ hs hf ht hg]
 by_cases hp:PlanOk a0 a1 a2 a3 a4 sp fz tr st cu ke em o1 o2 o3 sf se
 rotate_left
 ·rw[if_neg hp,if_neg (fun k=>hp k.1)];rfl
 rw[if_pos hp,p_status a0 a1 a2 a3 a4 sp fz tr st cu ke em o1 o2 o3 sf se s hp]
 by_cases h1:StatusOk a0 a4 st o1 sf se s
 rotate_left
 ·rw[decide_eq_false h1,if_neg (fun k=>h1 k.2.1)];rfl
 obtain⟨hh,_,_,_,hst,hcu,hke,hav⟩:=id hp
 have hr:=status_range a0 a4 st o1 sf se s h1
 unfold HeadOk at hh
 rw[decide_eq_true h1,p_ststop a0 a1 a2 a3 a4 sp fz tr st cu ke em o1 o2 o3 sf se s hst (by omega) (by omega) (by omega) (by omega) (by omega),p_stcut a0 a1 a2 a3 a4 sp fz tr st cu ke em o1 o2 o3 sf se s hcu (by omega) (by omega) (by omega) (by omega) (by omega),p_stkept a0 a1 a2 a3 a4 sp fz tr st cu ke em o1 o2 o3 sf se s hke (by omega) (by omega) (by omega) (by omega) (by omega) hl hk,p_stavg a0 a1 a2 a3 a4 sp fz tr st cu ke em o1 o2 o3 sf se s hav (by omega) (by omega) (by omega) (by omega) (by omega)]
 by_cases h2:StopSt a4 o1 s
 rotate_left
 ·rw[decide_eq_false h2,if_neg (fun k=>h2 k.2.2.1)];rfl
 by_cases h3:CutSt a4 cu o2 s
 rotate_left
 ·rw[decide_eq_true h2,decide_eq_false h3,if_neg (fun k=>h3 k.2.2.2.1)];rfl
 by_cases h4:KeptSt a4 ke o3 s
 rotate_left
 ·rw[decide_eq_true h2,decide_eq_true h3,decide_eq_false h4,if_neg (fun k=>h4 k.2.2.2.2.1)];rfl
 by_cases h5:AvgSt a1 em sf se s
 rotate_left
 ·rw[decide_eq_true h2,decide_eq_true h3,decide_eq_true h4,decide_eq_false h5,if_neg (fun k=>h5 k.2.2.2.2.2)];rfl
 rw[decide_eq_true h2,decide_eq_true h3,decide_eq_true h4,decide_eq_true h5,if_pos ⟨hp,h1,h2,h3,h4,h5⟩]
 rfl
end
end Go.Proofs.YtmomjjgokeffnaaGreat.F
