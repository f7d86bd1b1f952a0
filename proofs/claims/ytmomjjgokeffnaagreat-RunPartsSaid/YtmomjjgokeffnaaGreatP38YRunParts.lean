/- The turn: the program's step, piece by piece. -/
import Derived.Test.YtmomjjgokeffnaaGreatP38XRunParts
set_option linter.unusedVariables false
set_option linter.unusedSectionVars false
set_option linter.unusedSimpArgs false
namespace Go.Proofs.YtmomjjgokeffnaaGreat.F
open Go.VX
open Classical
abbrev TurnD:=PlanD×StateD×InD×Int×Int×List EvD×Unit
theorem p_phase(p:PlanD) (hp:PlanOkD p) (step:Int) (h0:0<=step) (h1:step<p.1):plan_Phase (p,step,())=some ((phN p.2.2.2.2.2.1 step:Nat):Int):=by
 have hn:=planD_phase hp h0 h1
 have hs:=planD_spans hp
 unfold plan_Phase phases_At slices_IndexFunc_Span
 dsimp only
 rw[grow_loop _ (fun k=>((k:Int),())) (phN p.2.2.2.2.2.1 step) (.inr ((phN p.2.2.2.2.2.1 step:Nat):Int)) _ ?_ ?_ ?_]
 ·rfl
 ·rfl
 ·intro k hk
  have:=hn.2.2.2 k hk
  dsimp only
  rw[lt_true (by omega:k<p.2.2.2.2.2.1.length),cnd_t,ati_d zSpan (by omega:k<p.2.2.2.2.2.1.length),bnd_mk,wr_succ (n:=p.2.2.2.2.2.1.length) (by omega) (by omega)]
  unfold phases_At_1
  dsimp only
  rw[decide_eq_false (by omega:¬ step<(nth zSpan p.2.2.2.2.2.1 k).2.1)]
  cases decide ((nth zSpan p.2.2.2.2.2.1 k).1<=step)<;>rfl
 ·dsimp only
  rw[lt_true hn.1,cnd_t,ati_d zSpan hn.1,bnd_mk]
  unfold phases_At_1
  dsimp only
  rw[decide_eq_true hn.2.1,decide_eq_true hn.2.2.1]
  rfl
theorem p_tell(u:Unit) (k i:Int) (t:TurnD) (h:t.2.2.2.2.2.1.length<=1000):engine_turn_tell ((u,k,i,()),t,())=some ((),(t.1,t.2.1,t.2.2.1,t.2.2.2.1,t.2.2.2.2.1,t.2.2.2.2.2.1++[(t.2.2.2.1,k,i,())],()),()):=by
 unfold engine_turn_tell
 dsimp only
 rw[app_ok (by rw[List.length_singleton];omega)]
 rfl
theorem p_was(p:PlanD) (hp:PlanOkD p) (s:StateD) (x:InD) (step:Int) (ev:List EvD) (n g:Nat) (hn:n<p.2.2.2.2.2.1.length) (hg:(g:Int)<p.2.2.2.1):engine_turn_was (((),(g:Int),()),(p,s,x,step,(n:Int),ev,()),())=some (wasF p n g):=by
 have hf:=planD_frozen hp
 have hs:=planD_spans hp
 unfold engine_turn_was wasF isF
 dsimp only
 by_cases h:0<n
 ·have hk:=hf.2 (n-1) (by omega)
  rw[decide_eq_true (by omega:(n:Int)>0),decide_eq_true h,cnd_t,ati_pred [] h (by omega:n<p.2.2.2.2.2.2.1.length) (by omega),bnd_mk,ati_d false (by omega)]
  rfl
 ·rw[decide_eq_false (by omega:¬ (n:Int)>0),decide_eq_false h]
  rfl
theorem p_begins(p:PlanD) (hp:PlanOkD p) (s:StateD) (x:InD) (step:Int) (n:Nat) (hn:n<p.2.2.2.2.2.1.length) (ev:List EvD) (hl:ev.length<=500):engine_turn_begins (((),()),(p,s,x,step,(n:Int),ev,()),())=some ((),(p,s,x,step,(n:Int),ev++evB p step n,()),()):=by
 have hf:=planD_frozen hp
 have hs:=planD_spans hp
 have hG:=planD_groups hp
 have hv:=hf.2 n (by omega)
 unfold engine_turn_begins evB begN
 dsimp only
 rw[ati_d zSpan hn,bnd_mk]
 by_cases hb:(nth zSpan p.2.2.2.2.2.1 n).1=step
 rotate_left
 ·rw[decide_eq_false hb,if_neg hb,List.append_nil]
  rfl
 rw[decide_eq_true hb,if_pos hb,Bool.not_true,cnd_f,p_tell _ _ _ _ (by dsimp only;omega),bnd_mk]
 dsimp only
 obtain⟨ev1,he1⟩:∃ e,e=ev++[(step,(1:Int),(n:Int),())]:=⟨_,rfl⟩
 have hl1:ev1.length<=501:=by rw[he1,List.length_append,List.length_singleton];omega
 rw[← he1]
 have inner:∀ (b:Bool) (e:List EvD) (K:(TurnD×Unit)->Option (Int×TurnD×Unit ⊕ TurnD×Unit)),e.length<=600 ->
   bnd (loopP (fun(s8:Int×TurnD×Unit)=>cnd (decide (s8.1<((nth [] p.2.2.2.2.2.2.1 n).length:Int))) (bnd (bnd (ati (nth [] p.2.2.2.2.2.2.1 n) s8.1) fun v10=>bnd (engine_turn_was (((),s8.1,()),(s8.2.1,()))) fun r11=>bnd (cnd (!(decide (v10=r11))) (some (!decide (v10=b))) (some true)) fun j12=>cnd j12 (some (s8.2.1,())) (bnd (cnd v10 (bnd (engine_turn_tell (((),3,s8.1,()),(s8.2.1,()))) fun r14=>some (r14.2.1,())) (bnd (engine_turn_tell (((),2,s8.1,()),(s8.2.1,()))) fun r15=>some (r15.2.1,()))) fun j13=>some (j13.1,()))) fun j9=>inlE (wr .i64 (s8.1+1),j9.1,())) (inrE (some (s8.2.1,())))) (0,((p,s,x,step,(n:Int),e,()):TurnD),())) K
   = K ((p,s,x,step,(n:Int),e++evG (fun g=>isF p n g=b/\wasF p n g=!b) step (if b=true then 3 else 2) p.2.2.2.1.toNat,()),()):=by
  intro b e K he
  rw[grow_loop _ (fun m=>((m:Int),(p,s,x,step,(n:Int),e++evG (fun g=>isF p n g=b/\wasF p n g=!b) step (if b=true then 3 else 2) m,()),())) p.2.2.2.1.toNat ((p,s,x,step,(n:Int),e++evG (fun g=>isF p n g=b/\wasF p n g=!b) step (if b=true then 3 else 2) p.2.2.2.1.toNat,()),()) _ ?_ ?_ ?_]
  ·rfl
  ·simp only[evG,List.append_nil]
   rfl
  ·intro m hm
   have hle:=evG_len (fun g=>isF p n g=b/\wasF p n g=!b) step (if b=true then 3 else 2) m
   have hm2:m<(nth [] p.2.2.2.2.2.2.1 n).length:=by omega
   dsimp only
   rw[lt_true hm2,cnd_t,ati_d false hm2,bnd_mk,p_was p hp s x step _ n m hn (by omega),bnd_mk,p_tell _ _ _ _ (by dsimp only;rw[List.length_append];omega),p_tell _ _ _ _ (by dsimp only;rw[List.length_append];omega),wr_succ hm2 (by omega)]
   simp only[evG]
   rw[show nth false (nth [] p.2.2.2.2.2.2.1 n) m=isF p n m from rfl]
   rcases Bool.eq_false_or_eq_true (isF p n m) with hi | hi<;>rcases Bool.eq_false_or_eq_true (wasF p n m) with hw | hw<;>cases b<;>simp [hi,hw,bnd_mk,cnd_t,cnd_f,inlE,List.append_assoc]
  ·have hm2:p.2.2.2.1.toNat=(nth [] p.2.2.2.2.2.2.1 n).length:=by omega
   dsimp only
   rw[hm2,lt_false,cnd_f]
   rfl
 obtain⟨e2,he2⟩:∃ e,e=evG (fun g=>isF p n g=false/\wasF p n g=true) step 2 p.2.2.2.1.toNat:=⟨_,rfl⟩
 obtain⟨e3,he3⟩:∃ e,e=evG (fun g=>isF p n g=true/\wasF p n g=false) step 3 p.2.2.2.1.toNat:=⟨_,rfl⟩
 have hl2:e2.length<=8:=by rw[he2];have:=evG_len (fun g=>isF p n g=false/\wasF p n g=true) step 2 p.2.2.2.1.toNat;omega
 rw[grow_loop _ (fun k=>((k:Int),(p,s,x,step,(n:Int),ev1++((if 0<k then e2 else [])++(if 1<k then e3 else [])),()),())) 2 ((p,s,x,step,(n:Int),ev1++(e2++e3),()),()) _ ?_ ?_ ?_]
 ·rw[bnd_mk]
  dsimp only
  rw[← he2,← he3,he1,List.append_assoc]
 ·simp
 ·intro k hk
  dsimp only
  rw[ati_d [] (by omega:n<p.2.2.2.2.2.2.1.length)]
  rcases (by omega:k=0\/k=1) with rfl | rfl
  ·have h1:=inner false (ev1++((if 0<0 then e2 else [])++(if 1<0 then e3 else []))) (fun j7=>inlE (wr .i64 (((0:Nat):Int)+1),j7.1,())) (by simp;omega)
   refine h1.trans ?_
   rw[if_neg (by decide:¬ (false=true))]
   simp [← he2,inlE]
   rfl
  ·have h1:=inner true (ev1++((if 0<1 then e2 else [])++(if 1<1 then e3 else []))) (fun j7=>inlE (wr .i64 (((1:Nat):Int)+1),j7.1,())) (by simp;omega)
   refine h1.trans ?_
   rw[if_pos rfl]
   simp [← he3,inlE]
   rfl
 ·rfl
end Go.Proofs.YtmomjjgokeffnaaGreat.F
