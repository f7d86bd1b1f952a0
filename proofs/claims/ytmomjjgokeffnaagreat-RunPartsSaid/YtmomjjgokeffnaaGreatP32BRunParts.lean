/- Steps that are kept: those ahead of which fewer others stand. -/
import Derived.Test.YtmomjjgokeffnaaGreatP32ARunParts
import Derived.Test.YtmomjjgokeffnaaGreatPJRunParts
import Derived.Test.YtmomjjgokeffnaaGreatP0LRunParts
set_option linter.unusedVariables false
set_option linter.unusedSectionVars false
set_option linter.unusedSimpArgs false
namespace Go.Proofs.YtmomjjgokeffnaaGreat.F
open Go.VX
open Classical
noncomputable def atS(most:Bool) (x:KpD):List KpD->Nat
 | []=>0
 | y::r=>if AheadB most x y then 0 else atS most x r+1
theorem atS_le(most:Bool) (x:KpD):∀ l,atS most x l<=l.length
 | []=>Nat.le_refl _
 | y::r=>by
  have:=atS_le most x r
  rw[atS,List.length_cons]
  split<;>omega
theorem atS_no(most:Bool) (x:KpD):∀ l j,j<atS most x l->¬ AheadB most x (nth zKp l j)
 | [],j,h=>by simp [atS] at h
 | y::r,j,h=>by
  rw[atS] at h
  split at h
  ·omega
  ·rename_i hn
   cases j with
   | zero=>exact hn
   | succ j=>exact atS_no most x r j (by omega)
theorem atS_yes(most:Bool) (x:KpD):∀ l,atS most x l<l.length->AheadB most x (nth zKp l (atS most x l))
 | [],h=>by simp at h
 | y::r,h=>by
  rw[atS] at h ⊢
  split at h
  ·rename_i hy
   rw[if_pos hy]
   exact hy
  ·rename_i hy
   rw[if_neg hy]
   exact atS_yes most x r (by rw[List.length_cons] at h;omega)
noncomputable def putL'(most:Bool) (l:List KpD) (x:KpD):List KpD:=l.take (atS most x l)++[x]++l.drop (atS most x l)
theorem putL_len(most:Bool) (l:List KpD) (x:KpD):(putL' most l x).length=l.length+1:=by
 have:=atS_le most x l
 unfold putL'
 simp only[List.length_append,List.length_take,List.length_drop,List.length_cons,List.length_nil]
 omega
theorem putL_nth(most:Bool) (l:List KpD) (x:KpD) (p:Nat):nth zKp (putL' most l x) p=if p<atS most x l then nth zKp l p else if p=atS most x l then x else nth zKp l (p-1):=by
 have h:=atS_le most x l
 unfold putL' nth List.getD
 rw[List.append_assoc,List.getElem?_append]
 by_cases h1:p<atS most x l
 ·rw[if_pos (by rw[List.length_take];omega),if_pos h1,List.getElem?_take,if_pos h1]
 ·rw[if_neg (by rw[List.length_take];omega),if_neg h1,List.length_take,show min (atS most x l) l.length=atS most x l by omega]
  by_cases h2:p=atS most x l
  ·subst h2
   rw[if_pos rfl,Nat.sub_self]
   rfl
  ·rw[if_neg h2,show p-atS most x l=(p-atS most x l-1)+1 by omega,List.singleton_append,List.getElem?_cons_succ,List.getElem?_drop]
   congr 2
   omega
noncomputable def zAhead(most:Bool):((KpD×(KpD×Unit))->Option Bool):=fun a1=>bnd (best_of_1 ((a1.1,a1.2.1,(),()),(most,()))) some
theorem p_index(l:List KpD) (hl:l.length<=1000000) (most:Bool) (x:KpD) (g:KpD×Unit->Option Bool) (hg:∀ y∈l,g (y,())=some (decide (AheadB most x y))) :
  slices_IndexFunc_Kept (l,g,())=some (if atS most x l<l.length then(atS most x l:Int) else -1):=by
 unfold slices_IndexFunc_Kept
 dsimp only
 have hle:=atS_le most x l
 refine scan_eq (fun i=>¬ AheadB most x (nth zKp l i.toNat)) 0 l.length (by omega) _ _ (fun i=>i) _ (fun i i0 i1=>?_) ?_ ?_
 ·obtain⟨k,rfl⟩:∃ k:Nat,i=k:=⟨i.toNat,by omega⟩
  have hk:k<l.length:=by omega
  dsimp only
  rw[Int.toNat_natCast,lt_true hk,cnd_t,ati_d zKp hk,bnd_mk,hg _ (nth_mem hk),bnd_mk,wr_succ hk (by omega)]
  refine⟨fun h=>?_,fun h=>?_⟩
  ·rw[decide_eq_false h];rfl
  ·rw[decide_eq_true (Classical.not_not.1 h)];rfl
 ·dsimp only
  rw[lt_false];rfl
 ·by_cases h:atS most x l<l.length
  ·refine .inl ⟨(atS most x l:Int),by omega,by omega,?_,fun j j0 j1=>?_,by rw[if_pos h]⟩
   ·rw[Int.toNat_natCast]
    exact fun hn=>hn (atS_yes most x l h)
   ·exact atS_no most x l _ (by omega)
  ·refine .inr ⟨fun j j0 j1=>atS_no most x l _ (by omega),by rw[if_neg h]⟩
theorem p_put(most:Bool) (c:Int) (out:List KpD) (x:KpD) (hl:out.length<=1000) (hr:KRange out) (hx:In64 x.2.1) :
  best_shelf_put ((c,zAhead most,()),out,x,())=some (if(out.length:Int)+1<=c then(putL' most out x,(0,0,()),false,()) else((putL' most out x).take out.length,nth zKp (putL' most out x) out.length,true,())):=by
 have hle:=atS_le most x out
 have hpl:=putL_len most out x
 have hi:=p_index out (by omega) most x (fun a1=>bnd (best_shelf_put_1 ((a1.1,(),(),()),((c,zAhead most,()),x,()))) some) (fun y hy=>by
  unfold best_shelf_put_1 zAhead
  dsimp only
  rw[p_ahead x y most hx (hr y hy)]
  rfl)
 unfold best_shelf_put
 dsimp only
 rw[hi,bnd_mk]
 have hj:∀ {β:Type} (K:Int×Unit->Option β),bnd (cnd (decide ((if atS most x out<out.length then(atS most x out:Int) else -1)<0)) (some ((out.length:Int),())) (some ((if atS most x out<out.length then(atS most x out:Int) else -1),()))) K=K ((atS most x out:Int),()):=fun K=>by
  by_cases h:atS most x out<out.length
  ·rw[if_pos h,decide_eq_false (by omega:¬ (atS most x out:Int)<0)];rfl
  ·rw[if_neg h,show out.length=atS most x out by omega];rfl
 have hins:insL 8796093022208 out (atS most x out:Int) [x]=some (putL' most out x):=by
  unfold insL
  rw[if_pos (by simp;omega),Int.toNat_natCast]
  rfl
 rw[hj,show slices_Clone_Kept (out,())=some out from clone_ok out _ (by omega),bnd_mk,hins,bnd_mk,hpl]
 by_cases hc:(out.length:Int)+1<=c
 ·rw[decide_eq_true (by omega:((out.length+1:Nat):Int)<=c),if_pos hc];rfl
 ·rw[decide_eq_false (by omega:¬ ((out.length+1:Nat):Int)<=c),if_neg hc,cnd_f,wr_id (x:=((out.length+1:Nat):Int)-1) (by omega) (by omega),show((out.length+1:Nat):Int)-1=(out.length:Int) by omega,inR_ok (by omega),bnd_mk,ati_d zKp (by omega),bnd_mk]
  have hs:sub (putL' most out x) 0 (out.length:Int)=some ((putL' most out x).take out.length):=by
   unfold sub
   rw[if_pos (by omega)]
   rfl
  rw[hs]
  rfl
section
variable (l:List KpD) (most:Bool)
end
end Go.Proofs.YtmomjjgokeffnaaGreat.F
