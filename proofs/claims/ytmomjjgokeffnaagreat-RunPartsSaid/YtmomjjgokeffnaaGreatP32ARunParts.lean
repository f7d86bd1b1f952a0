/- Steps that are kept: whether they are kept so: the program's check and the reference's. -/
import Derived.Test.YtmomjjgokeffnaaGreatP0RunParts
import Derived.Test.YtmomjjgokeffnaaGreatFRunParts
set_option linter.unusedVariables false
set_option linter.unusedSimpArgs false
namespace Go.Proofs.YtmomjjgokeffnaaGreat.F
open Go.VX
open Classical
abbrev eqi:Int->Int->Bool:=fun(a b:Int)=>decide (a=b)
theorem mp_get_cons{α:Type} (k':Int) (v:α) (r:List (Int×α)) (s:Int) (z:α):mpVal ((k',v)::r) (mpAt eqi ((k',v)::r) s) z=if s=k' then v else mpVal r (mpAt eqi r s) z:=by
 simp only[mpAt]
 by_cases h:s=k'
 ·rw[show eqi s k'=true from decide_eq_true h,if_pos h];rfl
 ·rw[show eqi s k'=false from decide_eq_false h,if_neg h]
  unfold mpVal
  rw[List.getElem?_cons_succ]
theorem mp_put_nil{α:Type} (k:Int) (v:α):mpPut [] (mpAt eqi ([]:List (Int×α)) k) k v=[(k,v)]:=rfl
theorem mp_put_cons{α:Type} (k':Int) (v':α) (r:List (Int×α)) (k:Int) (v:α):mpPut ((k',v')::r) (mpAt eqi ((k',v')::r) k) k v=if k=k' then(k,v)::r else(k',v')::mpPut r (mpAt eqi r k) k v:=by
 simp only[mpAt]
 by_cases h:k=k'
 ·rw[show eqi k k'=true from decide_eq_true h,if_pos h];rfl
 ·rw[show eqi k k'=false from decide_eq_false h,if_neg h]
  unfold mpPut
  by_cases hb:mpAt eqi r k<r.length
  ·rw[show Nat.blt (mpAt eqi r k+1) ((k',v')::r).length=true from Nat.ble_eq_true_of_le (by simp;omega),show Nat.blt (mpAt eqi r k) r.length=true from Nat.ble_eq_true_of_le (by omega)]
   rfl
  ·have f:∀ a b:Nat,¬ a<b->Nat.blt a b=false:=fun a b h=>by
    cases hb:Nat.blt a b
    ·rfl
    ·have:=Nat.le_of_ble_eq_true hb;omega
   rw[f _ _ (by simp;omega),f _ _ hb]
   rfl
theorem mp_get_put{α:Type} (z v:α) (k s:Int):∀ l:List (Int×α),mpVal (mpPut l (mpAt eqi l k) k v) (mpAt eqi (mpPut l (mpAt eqi l k) k v) s) z=if s=k then v else mpVal l (mpAt eqi l s) z
 | []=>by rw[mp_put_nil,mp_get_cons]
 | (k',v')::r=>by
  rw[mp_put_cons]
  by_cases h:k=k'
  ·subst h
   rw[if_pos rfl,mp_get_cons,mp_get_cons]
   by_cases h2:s=k
   ·rw[if_pos h2,if_pos h2]
   ·rw[if_neg h2,if_neg h2,if_neg h2]
  ·rw[if_neg h,mp_get_cons,mp_get_put z v k s r,mp_get_cons]
   by_cases h2:s=k'
   ·rw[if_pos h2,if_pos h2,if_neg (fun e=>h (e.symm.trans h2))]
   ·rw[if_neg h2,if_neg h2]
abbrev KpD:=Int×Int×Unit
abbrev zKp:KpD:=(0,0,())
def AheadB(most:Bool) (a b:KpD):Prop:=if most=true then b.2.1<a.2.1 else a.2.1<b.2.1
def In64(x:Int):Prop:=-9223372036854775808<=x/\x<=9223372036854775807
theorem p_better(x b:Int) (most:Bool) (hx:In64 x) (hb:In64 b):better_Is (x,b,(most,0,false,()),())=some (decide (if most=true then b<x else x<b)):=by
 unfold In64 at hx hb
 have key:∀ hi lo:Int,-9223372036854775808<=hi->hi<=9223372036854775807->-9223372036854775808<=lo->lo<=9223372036854775807 ->
   (bnd (better_apart (hi,lo,())) fun r2=>bnd (better_Gap (b,(most,0,false,()),())) fun r3=>bnd (cnd r2.2.1 (some r3.2.1) (some false)) fun j4=>bnd (cnd j4 (some (decide (r2.1>(wr .u64 r3.1)))) (some false)) fun j5=>some j5)=some (decide (lo<hi)):=by
  intro hi lo h1 h2 h3 h4
  have hm:maxL 0 [0]=0:=rfl
  unfold better_apart better_Gap
  simp only[bnd_mk,cnd_t,cnd_f,Bool.not_false,hm,wru_mod]
  by_cases h:hi>lo
  ·rw[decide_eq_true h]
   simp only[bnd_mk,cnd_t]
   rw[decide_eq_true (by omega)]
  ·rw[decide_eq_false h]
   simp only[bnd_mk,cnd_f]
 unfold better_Is
 dsimp only
 cases most with
 | true=>rw[cnd_t,bnd_mk];exact key x b hx.1 hx.2 hb.1 hb.2
 | false=>rw[cnd_f,bnd_mk];exact key b x hb.1 hb.2 hx.1 hx.2
theorem p_ahead(a b:KpD) (most:Bool) (ha:In64 a.2.1) (hb:In64 b.2.1):bnd (best_of_1 ((a,b,(),()),(most,()))) some=some (decide (AheadB most a b)):=by
 unfold best_of_1
 dsimp only
 rw[p_better _ _ _ ha hb]
 simp only[bnd_mk]
 exact congrArg some (decide_eq_decide.2 Iff.rfl)
def KStep(most:Bool) (l:List KpD) (i:Nat):Prop:=(∀ k,k<i->(nth zKp l k).1≠(nth zKp l i).1)/\(0<i->¬ AheadB most (nth zKp l i) (nth zKp l (i-1))/\¬ ((nth zKp l i).2.1=(nth zKp l (i-1)).2.1/\(nth zKp l i).1<(nth zKp l (i-1)).1))
def KeptOk(l:List KpD) (count:Int) (most:Bool):Prop:=(∀ i,i<l.length->KStep most l i)/\(l.length:Int)<=count
def KRange(l:List KpD):Prop:=∀ x,x∈l->In64 x.2.1
theorem met_step(l:List KpD) (i:Nat) (m:List (Int×Int)) (hm:∀ s,mpVal m (mpAt eqi m s) 0=if ∃ k,k<i/\(nth zKp l k).1=s then 1 else 0) (hd:∀ k,k<i->(nth zKp l k).1≠(nth zKp l i).1) :
  ∀ s,mpVal (mpPut m (mpAt eqi m (nth zKp l i).1) (nth zKp l i).1 1) (mpAt eqi (mpPut m (mpAt eqi m (nth zKp l i).1) (nth zKp l i).1 1) s) 0=if ∃ k,k<i+1/\(nth zKp l k).1=s then(1:Int) else 0:=by
 intro s
 rw[mp_get_put]
 by_cases h:s=(nth zKp l i).1
 ·rw[if_pos h,if_pos ⟨i,by omega,h.symm⟩]
 ·rw[if_neg h,hm]
  apply if_same
  constructor
  ·rintro⟨k,hk,e⟩;exact⟨k,by omega,e⟩
  ·rintro⟨k,hk,e⟩
   by_cases hki:k=i
   ·subst hki;exact(h e.symm).elim
   ·exact⟨k,by omega,e⟩
theorem p_bestcheck(l:List KpD) (count:Int) (most:Bool) (hl:l.length<=9223372036854775807) (hr:KRange l):best_Check (l,count,most,())=some (decide (KeptOk l count most)):=by
 unfold best_Check best_of
 dsimp only
 rw[bnd_mk]
 dsimp only
 obtain⟨r,e,h⟩:=loop_rule (ρ:=Unit ⊕ Bool) (f:=(fun(s3:Int×(List ((Int×Int))×Unit)×Unit)=>cnd (decide (s3.1<(l.length:Int))) (bnd (ati l s3.1) fun v4=>cnd (decide ((mpVal (mpPut s3.2.1.1 (mpAt (fun(a b:Int)=>decide (a=b)) s3.2.1.1 v4.1) v4.1 (wr .i64 ((mpVal s3.2.1.1 (mpAt (fun(a b:Int)=>decide (a=b)) s3.2.1.1 v4.1) 0)+1))) (mpAt (fun(a b:Int)=>decide (a=b)) (mpPut s3.2.1.1 (mpAt (fun(a b:Int)=>decide (a=b)) s3.2.1.1 v4.1) v4.1 (wr .i64 ((mpVal s3.2.1.1 (mpAt (fun(a b:Int)=>decide (a=b)) s3.2.1.1 v4.1) 0)+1))) v4.1) 0)>1)) (inrE (inrE (some false))) (bnd (cnd (decide (s3.1>0)) (bnd (ati l (wr .i64 (s3.1-1))) fun v5=>bnd ((fun a1:KpD×KpD×Unit=>bnd (best_of_1 ((a1.1,a1.2.1,(),()),(most,()))) some) (v4,v5,())) fun r6=>bnd (cnd (!r6) (bnd (ati l (wr .i64 (s3.1-1))) fun v7=>bnd (cnd (decide (v4.2.1=v7.2.1)) (bnd (ati l (wr .i64 (s3.1-1))) fun v8=>some (decide (v4.1<v8.1))) (some false)) fun j9=>some j9) (some true)) fun j10=>some j10) (some false)) fun j11=>cnd j11 (inrE (inrE (some false))) (inlE (wr .i64 (s3.1+1),(mpPut s3.2.1.1 (mpAt (fun(a b:Int)=>decide (a=b)) s3.2.1.1 v4.1) v4.1 (wr .i64 ((mpVal s3.2.1.1 (mpAt (fun(a b:Int)=>decide (a=b)) s3.2.1.1 v4.1) 0)+1)),()),())))) (inrE (inlE (())))))
  (fun s=>0<=s.1/\s.1<=l.length/\(∀ i,i<s.1.toNat->KStep most l i)/\∀ x,mpVal s.2.1.1 (mpAt eqi s.2.1.1 x) 0=if ∃ k,k<s.1.toNat/\(nth zKp l k).1=x then 1 else 0) (fun s=>l.length-s.1.toNat)
  (fun r=>(r=.inl ()/\∀ i,i<l.length->KStep most l i)\/(r=.inr false/\¬ ∀ i,i<l.length->KStep most l i)) (fun s ⟨i0,i1,i2,i3⟩=>by
   obtain⟨i,⟨m,_⟩,_⟩:=s
   dsimp only at i0 i1 i2 i3 ⊢
   obtain⟨k,rfl⟩:∃ k:Nat,i=k:=⟨i.toNat,by omega⟩
   rw[Int.toNat_natCast] at i2 i3
   by_cases hk:k<l.length
   ·rw[lt_true hk,cnd_t,ati_d zKp hk,bnd_mk,wr_succ hk hl]
    have hw:wr .i64 (mpVal m (mpAt eqi m (nth zKp l k).1) 0+1)=(if ∃ j,j<k/\(nth zKp l j).1=(nth zKp l k).1 then 1 else 0)+1:=by
     rw[i3]
     split<;>rfl
    rw[show wr .i64 (mpVal m (mpAt (fun(a b:Int)=>decide (a=b)) m (nth zKp l k).1) 0+1)=_ from hw,show mpVal (mpPut m (mpAt (fun(a b:Int)=>decide (a=b)) m (nth zKp l k).1) (nth zKp l k).1 _) (mpAt (fun(a b:Int)=>decide (a=b)) (mpPut m (mpAt (fun(a b:Int)=>decide (a=b)) m (nth zKp l k).1) (nth zKp l k).1 _) (nth zKp l k).1) 0=_ from mp_get_put 0 _ (nth zKp l k).1 (nth zKp l k).1 m,if_pos rfl]
    by_cases hd:∃ j,j<k/\(nth zKp l j).1=(nth zKp l k).1
    ·right
     rw[if_pos hd]
     refine⟨.inr false,rfl,.inr ⟨rfl,fun h=>?_⟩⟩
     obtain⟨j,hj,e⟩:=hd
     exact(h k hk).1 j hj e
    ·rw[if_neg hd]
     have hd':∀ j,j<k->(nth zKp l j).1≠(nth zKp l k).1:=fun j hj e=>hd ⟨j,hj,e⟩
     rw[show(decide ((0:Int)+1>1))=false from rfl,cnd_f]
     have hms:=met_step l k m i3 hd'
     by_cases h0:0<k
     ·rw[decide_eq_true (by omega:(k:Int)>0),cnd_t,ati_pred zKp h0 hk hl,bnd_mk,p_ahead _ _ _ (hr _ (nth_mem hk)) (hr _ (nth_mem (by omega))),bnd_mk]
      by_cases ha:AheadB most (nth zKp l k) (nth zKp l (k-1))
      ·right
       rw[decide_eq_true ha]
       exact⟨.inr false,rfl,.inr ⟨rfl,fun h=>((h k hk).2 h0).1 ha⟩⟩
      ·rw[decide_eq_false ha,Bool.not_false,cnd_t,bnd_mk]
       by_cases hv:(nth zKp l k).2.1=(nth zKp l (k-1)).2.1
       ·rw[decide_eq_true hv,cnd_t,bnd_mk]
        by_cases hs:(nth zKp l k).1<(nth zKp l (k-1)).1
        ·right
         rw[decide_eq_true hs]
         exact⟨.inr false,rfl,.inr ⟨rfl,fun h=>((h k hk).2 h0).2 ⟨hv,hs⟩⟩⟩
        ·left
         rw[decide_eq_false hs]
         refine⟨_,rfl,⟨by dsimp only;omega,by dsimp only;omega,fun j hj=>?_,?_⟩,by dsimp only;omega⟩
         ·dsimp only at hj
          by_cases hjk:j=k
          ·subst hjk;exact⟨hd',fun _=>⟨ha,fun h=>hs h.2⟩⟩
          ·exact i2 j (by omega)
         ·dsimp only
          rw[show((k:Int)+1).toNat=k+1 by omega]
          exact hms
       ·left
        rw[decide_eq_false hv]
        refine⟨_,rfl,⟨by dsimp only;omega,by dsimp only;omega,fun j hj=>?_,?_⟩,by dsimp only;omega⟩
        ·dsimp only at hj
         by_cases hjk:j=k
         ·subst hjk;exact⟨hd',fun _=>⟨ha,fun h=>hv h.1⟩⟩
         ·exact i2 j (by omega)
        ·dsimp only
         rw[show((k:Int)+1).toNat=k+1 by omega]
         exact hms
     ·left
      have:k=0:=by omega
      subst this
      refine⟨_,rfl,⟨by dsimp only;omega,by dsimp only;omega,fun j hj=>?_,?_⟩,by dsimp only;omega⟩
      ·dsimp only at hj
       have:j=0:=by omega
       subst this
       exact⟨hd',fun h=>by omega⟩
      ·exact hms
   ·right
    have hkn:k=l.length:=by omega
    subst hkn
    rw[lt_false,cnd_f]
    exact⟨_,rfl,.inl ⟨rfl,i2⟩⟩) (0,([],()),()) ⟨by dsimp only;omega,by dsimp only;omega,fun i hi=>by simp at hi,fun x=>by
   rw[if_neg (by rintro⟨k,hk,_⟩;simp at hk)];rfl⟩
 rw[e]
 rcases h with⟨rfl,h⟩ | ⟨rfl,h⟩
 ·rw[bndS_l]
  congr 1
  rw[decide_eq_decide]
  exact⟨fun k=>⟨h,k⟩,fun k=>k.2⟩
 ·rw[bndS_r]
  congr 1
  rw[eq_comm,decide_eq_false_iff_not]
  exact fun k=>h k.1
end Go.Proofs.YtmomjjgokeffnaaGreat.F
