/- The law RunParts, in plain Lean: a run that is broken off anywhere, and goes on from its state, is the whole run. -/
import Derived.Test.YtmomjjgokeffnaaGreatVx3
import Derived.Test.YtmomjjgokeffnaaGreatP39BRunParts
set_option linter.unusedVariables false
set_option linter.unusedSimpArgs false
namespace Go.Proofs.YtmomjjgokeffnaaGreat.F
open Go.VX
open Classical
theorem pure_RunParts(x:Ty.D (.tu T34 (.tu T83 (.tu (.int .u8) .unit)))) (h:Ty.wf (.tu T34 (.tu T83 (.tu (.int .u8) .unit))) x):l39_RunParts x=some true\/l39_RunPartsB x=some true:=by
 obtain⟨p,l,n,_⟩:=x
 obtain⟨hp,hl,hn,_⟩:=h
 change PlanD at p
 change List InD at l
 change Int at n
 have w:WfP p:=by
  obtain⟨a0,a1,a2,a3,a4,sp,fz,tr,st,cu,ke,em,o1,o2,o3,sf,se,_⟩:=p
  obtain⟨_,_,_,_,_,hsp,hfz,htr,_⟩:=hp
  exact⟨hsp.1,hfz.1,htr.1,fun t ht=>(htr.2 t ht).2.2.1.1⟩
 have hX:∀ x∈l,InX x:=fun x hx=>by
  have h:=hl.2 x hx
  exact⟨fun y hy=>(h.1.2 y hy).2.1,fun y hy=>h.2.1.2 y hy⟩
 have hn0:0<=n:=hn.1
 have hn1:n<=255:=hn.2
 clear hp hl hn
 obtain⟨q,e,hq⟩:=small39 p zSt l
 unfold l39_RunParts l39_RunPartsB
 dsimp only
 rw[awake39,show l39_Small (p,(0,0,0,(false,0,0,()),((false,0,0,()),0,0,()),[],[],(0,[],()),()),l,())=_ from e]
 cases q with
 | false=>exact .inl rfl
 | true =>
 have hq:=hq rfl
 simp only[bnd_mk,Bool.not_true,cnd_f]
 obtain⟨k,hk,hj⟩:∃ k:Nat,k<=l.length/\∀ {β:Type} (K:Int×Unit->Option β),bnd (cnd (decide ((wr .i64 n)>(l.length:Int))) (some ((l.length:Int),())) (some (wr .i64 n,()))) K=K ((k:Int),()):=by
  rw[wr_id (x:=n) (by omega) (by omega)]
  by_cases h:n>(l.length:Int)
  ·exact⟨l.length,Nat.le_refl _,fun K=>by rw[decide_eq_true h];rfl⟩
  ·exact⟨n.toNat,by omega,fun K=>by rw[decide_eq_false h,show((n.toNat:Nat):Int)=n by omega];rfl⟩
 rw[hj,hj]
 dsimp only
 have s1:sub l 0 (k:Int)=some (l.take k):=by
  unfold sub
  rw[if_pos (by omega)]
  rfl
 have s2:sub l (k:Int) (List.length l)=some (l.drop k):=by
  unfold sub
  rw[if_pos (by omega),Int.toNat_natCast,Int.toNat_natCast,List.take_length]
 rw[s1,s2]
 have hx1:∀ x∈l,InX x/\x.1.length<=1000:=fun x hx=>⟨hX x hx,by have:=(hq.2.2.1 x hx).1;omega⟩
 have hx2:∀ x∈l.take k,InX x/\x.1.length<=1000:=fun x hx=>hx1 x (List.mem_of_mem_take hx)
 have hx3:∀ x∈l.drop k,InX x/\x.1.length<=1000:=fun x hx=>hx1 x (List.mem_of_mem_drop hx)
 have hl2:(l.take k).length<=1000:=by rw[List.length_take];omega
 have hl3:(l.drop k).length<=1000:=by rw[List.length_drop];omega
 by_cases hpk:PlanOkD p
 rotate_left
 ·right
  rw[p_AllB p l w hpk]
  simp only[bnd_mk]
  rw[p_AllB p (l.take k) w hpk]
  rfl
 left
 have g0:=s0_good hpk
 rw[p_All w hpk l (by omega) hx1]
 simp only[bnd_mk]
 rw[p_All w hpk (l.take k) hl2 hx2]
 simp only[bnd_mk]
 have happ:=run_app (l.take k) (l.drop k) s0D (p:=p)
 rw[List.take_append_drop] at happ
 by_cases hf:(RunL p s0D (l.take k)).2.2.1=0
 rotate_left
 ·have h1:=run_short (p:=p) (l.take k) (l.drop k) s0D hf
  rw[List.take_append_drop] at h1
  rw[h1,(run_err (l.take k) s0D).resolve_left hf]
  rfl
 have gu:=run_good hpk (l.take k) s0D g0 (fun x hx=>(hx2 x hx).1) hf
 obtain⟨a1,a2⟩:=happ hf
 rw[hf,p_From w hpk (l.drop k) hl3 hx3 _ gu]
 simp only[bnd_mk,decide_true,Bool.not_true,cnd_f]
 by_cases hg:(RunL p (RunL p s0D (l.take k)).2.1 (l.drop k)).2.2.1=0
 rotate_left
 ·rw[a2 hg,(run_err (l.drop k) (RunL p s0D (l.take k)).2.1).resolve_left hg]
  rfl
 have e1:=a1 hg
 have len0:=run_lens hpk l s0D g0 hX
 have len1:=run_lens hpk (l.take k) s0D g0 (fun x hx=>(hx2 x hx).1)
 have len2:=run_lens hpk (l.drop k) _ gu (fun x hx=>(hx3 x hx).1)
 have gf:=run_good hpk l s0D g0 hX (by rw[e1])
 rw[hg]
 have e0:(RunL p s0D l).2.2.1=0:=by rw[e1]
 rw[e0]
 simp only[decide_true,Bool.not_true,Bool.not_false,cnd_f,cnd_t]
 rw[app_ok (by rw[List.length_nil];omega),bnd_mk,app_ok (by rw[List.nil_append];omega),bnd_mk,r_same39 (RunL p s0D l).1 _ (by omega) len0.2 (by rw[e1,List.nil_append]),bnd_mk,cnd_t,r_sameD _ _ gf.ins,decide_eq_true (by rw[e1])]
 rfl
end Go.Proofs.YtmomjjgokeffnaaGreat.F
