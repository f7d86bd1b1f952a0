/- A step of a run, by definition: what is told, and the state behind it; that state may be. -/
import Derived.Test.YtmomjjgokeffnaaGreatP37ERunParts
import Derived.Test.YtmomjjgokeffnaaGreatP32BRunParts
import Derived.Test.YtmomjjgokeffnaaGreatPNRunParts
set_option linter.unusedVariables false
set_option linter.unusedSectionVars false
set_option linter.unusedSimpArgs false
namespace Go.Proofs.YtmomjjgokeffnaaGreat.F
open Go.VX
open Classical
abbrev EvD:=Int×Int×Int×Unit
abbrev RdD:=Bool×Int×Unit
abbrev zRd:RdD:=(false,0,())
abbrev InD:=List RdD×List Int×Unit
abbrev RuleD:=Bool×Int×Bool×Unit
abbrev SumD:=Int×List Int×Unit
def BadS(b:Int):Int:=if b<0 then 1 else if b<1099511627776 then b+1 else 1099511627776
def DelS(r:RuleD):Int:=if r.2.1<0 then 0 else r.2.1
def GapV(best:Int) (r:RuleD):Int×Int×Unit:=if r.2.2.1=true then MulS (if Abs best=9223372036854775808 then 9223372036854775807 else Abs best) (DelS r) else(DelS r,0,())
def IsB(x best:Int) (r:RuleD):Prop:=(if r.1=true then best<x else x<best)/\(GapV best r).2.1=0/\(GapV best r).1<Abs (x-best)
noncomputable def TakeW(w:WatchD) (x:Int) (r:RuleD):WatchD:=if w.1=false\/IsB x w.2.1 r then(true,x,0,()) else(w.1,w.2.1,BadS w.2.2.1,())
noncomputable def TakeC(c:CutSD) (x:Int) (cu:CutD):CutSD×Bool :=
 if 0<c.2.1 then((((TakeW c.1 x (cu.2.2.1,cu.2.2.2.2.2.2.2.1,false,())).1,(TakeW c.1 x (cu.2.2.1,cu.2.2.2.2.2.2.2.1,false,())).2.1,0,()),c.2.1-1,c.2.2.1,()),false)
 else if cu.2.2.2.2.1<1\/(TakeW c.1 x (cu.2.2.1,cu.2.2.2.2.2.2.2.1,false,())).2.2.1<cu.2.2.2.2.1 then((TakeW c.1 x (cu.2.2.1,cu.2.2.2.2.2.2.2.1,false,()),c.2.1,c.2.2.1,()),false)
 else((((TakeW c.1 x (cu.2.2.1,cu.2.2.2.2.2.2.2.1,false,())).1,(TakeW c.1 x (cu.2.2.1,cu.2.2.2.2.2.2.2.1,false,())).2.1,0,()),cu.2.2.2.2.2.1,(MulS c.2.2.1 cu.2.2.2.1).1,()),true)
noncomputable def PutS(most:Bool) (c:Int) (l:List KpD) (x:KpD):List KpD×KpD×Bool×Unit:=if(l.length:Int)+1<=c then(putL' most l x,(0,0,()),false,()) else((putL' most l x).take l.length,nth zKp (putL' most l x) l.length,true,())
noncomputable def evG(c:Nat->Prop) (step kind:Int):Nat->List EvD
 | 0=>[]
 | k+1=>evG c step kind k++if c k then [(step,kind,(k:Int),())] else []
theorem evG_len(c:Nat->Prop) (step kind:Int):∀ k,(evG c step kind k).length<=k
 | 0=>Nat.le_refl _
 | k+1=>by
  have:=evG_len c step kind k
  simp only[evG,List.length_append]
  split<;>simp<;>omega
def Seen(l:List RdD) (at':Int):Prop:=0<=at'/\(nth zRd l at'.toNat).1=true
def valR(l:List RdD) (at':Int):Int:=(nth zRd l at'.toNat).2.1
def SumFail(sw:SumD) (w:List Int):Prop:=sw.1≠0/\∃ i,i<w.length/\¬ In64 (nth 0 sw.2.1 i+nth 0 w i)
noncomputable def SumS(sw:SumD) (w:List Int):SumD:=(sw.1+1,if sw.1=0 then w else(List.range w.length).map fun i=>nth 0 sw.2.1 i+nth 0 w i,())
noncomputable def EmaS(avg w:List Int) (d:Int):List Int:=if avg.length=0 then w else(List.range w.length).map fun i=>LerpS (nth 0 w i) (nth 0 avg i) d
def phN:List SpanD->Int->Nat
 | [],_=>0
 | t::r,step=>if step<t.2.1 then 0 else phN r step+1
section
variable (p:PlanD) (s:StateD) (x:InD)
def LkN:Prop:=LookedP p.2.2.2.2.1 s.1
def KeN:Prop:=LkN p s/\Seen x.1 p.2.2.2.2.2.2.2.2.2.2.2.2.2.2.1
noncomputable def putN:List KpD×KpD×Bool×Unit:=PutS p.2.2.2.2.2.2.2.2.2.2.1.2.2.1 p.2.2.2.2.2.2.2.2.2.2.1.2.2.2.1 s.2.2.2.2.2.1 (s.1,valR x.1 p.2.2.2.2.2.2.2.2.2.2.2.2.2.2.1,())
noncomputable def keptN:List KpD:=if KeN p s x then(putN p s x).1 else s.2.2.2.2.2.1
def CuN:Prop:=LkN p s/\Seen x.1 p.2.2.2.2.2.2.2.2.2.2.2.2.2.1
noncomputable def cutR:CutSD×Bool:=TakeC s.2.2.2.2.1 (valR x.1 p.2.2.2.2.2.2.2.2.2.2.2.2.2.1) p.2.2.2.2.2.2.2.2.2.1
noncomputable def cutN:CutSD:=if CuN p s x then(cutR p s x).1 else s.2.2.2.2.1
def StN:Prop:=LkN p s/\Seen x.1 p.2.2.2.2.2.2.2.2.2.2.2.2.1
noncomputable def stopN:WatchD:=if StN p s x then TakeW s.2.2.2.1 (valR x.1 p.2.2.2.2.2.2.2.2.2.2.2.2.1) (p.2.2.2.2.2.2.2.2.1.2.2.1,p.2.2.2.2.2.2.2.2.1.2.2.2.2.1,p.2.2.2.2.2.2.2.2.1.2.2.2.2.2.1,()) else s.2.2.2.1
def OutN:Prop:=StN p s x/\p.2.2.2.2.2.2.2.2.1.2.2.2.1<=(stopN p s x).2.2.1
def SwN:Prop:=SwaP p.2.2.2.2.2.2.2.2.2.2.2.2.2.2.2.1 p.2.2.2.2.2.2.2.2.2.2.2.2.2.2.2.2.1 s.1
def FailN:Prop:=SwN p s/\SumFail s.2.2.2.2.2.2.2.1 x.2.1
noncomputable def swaN:SumD:=if SwN p s then SumS s.2.2.2.2.2.2.2.1 x.2.1 else s.2.2.2.2.2.2.2.1
noncomputable def emaN:List Int:=if p.2.2.2.2.2.2.2.2.2.2.2.1.1=true then EmaS s.2.2.2.2.2.2.1 x.2.1 p.2.2.2.2.2.2.2.2.2.2.2.1.2.1 else s.2.2.2.2.2.2.1
noncomputable def StT:StateD :=
 if FailN p s x then(s.1+1,3,s.1,s.2.2.2.1,s.2.2.2.2.1,s.2.2.2.2.2.1,s.2.2.2.2.2.2.1,s.2.2.2.2.2.2.2.1,())
 else(s.1+1,if OutN p s x then 2 else if s.1+1=p.1 then 1 else 0,if OutN p s x then s.1 else if s.1+1=p.1 then s.1 else s.2.2.1,stopN p s x,cutN p s x,keptN p s x,emaN p s x,swaN p s x,())
end
theorem watch_up{w:WatchD} {a b:Int} (h:WatchOk w a) (hab:a<=b):WatchOk w b:=by
 rcases h with h | h
 ·exact .inl h
 ·exact .inr ⟨h.1,h.2.1,h.2.2.1,by omega⟩
theorem take_ok(w:WatchD) (x:Int) (r:RuleD) (a:Int) (h0:0<=a) (h:WatchOk w a):WatchOk (TakeW w x r) (a+1):=by
 unfold TakeW
 by_cases k:w.1=false\/IsB x w.2.1 r
 ·rw[if_pos k]
  exact .inr ⟨rfl,by dsimp only;omega,by dsimp only;omega,by dsimp only;omega⟩
 ·rw[if_neg k]
  rcases h with h | h
  ·exact(k (.inl h.1)).elim
  ·refine .inr ⟨h.1,?_,?_,?_⟩<;>dsimp only<;>unfold BadS<;>split<;>(try split)<;>omega
theorem take_has(w:WatchD) (x:Int) (r:RuleD):(TakeW w x r).1=true:=by
 unfold TakeW
 by_cases k:w.1=false\/IsB x w.2.1 r
 ·rw[if_pos k]
 ·rw[if_neg k]
  dsimp only
  cases hw:w.1
  ·exact(k (.inl hw)).elim
  ·rfl
theorem watch_zero{w:WatchD} {a:Int} (h:WatchOk w a) (h0:0<a) (hw:w.1=true):WatchOk (w.1,w.2.1,0,()) a:=.inr ⟨hw,by dsimp only;omega,by dsimp only;omega,by dsimp only;omega⟩
def CutGood(cu:CutD) (a:Int) (c:CutSD):Prop:=CutStOk c/\WatchOk c.1 a/\c.1.2.2.1<cu.2.2.2.2.1/\c.2.1<=cu.2.2.2.2.2.1
theorem cutst_mk(w:WatchD) (r sc:Int) (hw:w.1=true) (h0:0<=r) (h1:r<=1099511627776) (h2:0<=w.2.2.1) (h3:w.2.2.1<=1099511627776) (h4:0<=sc) (h5:sc<=4294967296):CutStOk (w,r,sc,()) :=
 ⟨fun h=>by have:=h.1;dsimp only at this;rw[hw] at this;exact Bool.noConfusion this,h0,h1,h2,h3,h4,h5⟩
theorem cut_good(cu:CutD) (a:Int) (c:CutSD) (x:Int) (h0:0<=a) (hp:1<=cu.2.2.2.2.1) (hf0:0<=cu.2.2.2.1) (hf:cu.2.2.2.1<4294967296) (hc0:0<=cu.2.2.2.2.2.1) (hc:cu.2.2.2.2.2.1<=1099511627776) (h:CutGood cu a c):CutGood cu (a+1) (TakeC c x cu).1:=by
 obtain⟨⟨c1,c2,c3,c4,c5,c6,c7⟩,hw,hb,hr⟩:=h
 have ht:=take_ok c.1 x (cu.2.2.1,cu.2.2.2.2.2.2.2.1,false,()) a h0 hw
 have hh:=take_has c.1 x (cu.2.2.1,cu.2.2.2.2.2.2.2.1,false,())
 unfold TakeC
 generalize TakeW c.1 x (cu.2.2.1,cu.2.2.2.2.2.2.2.1,false,())=w at *
 have hb2:0<=w.2.2.1/\w.2.2.1<=1099511627776:=by
  rcases ht with k | k
  ·rw[k.1] at hh;exact Bool.noConfusion hh
  ·exact⟨k.2.1,k.2.2.1⟩
 by_cases k1:0<c.2.1
 ·rw[if_pos k1]
  exact⟨cutst_mk _ _ _ hh (by omega) (by omega) (by dsimp only;omega) (by dsimp only;omega) c6 c7,watch_zero ht (by omega) hh,by dsimp only;omega,by dsimp only;omega⟩
 rw[if_neg k1]
 by_cases k2:cu.2.2.2.2.1<1\/w.2.2.1<cu.2.2.2.2.1
 ·rw[if_pos k2]
  exact⟨cutst_mk _ _ _ hh (by omega) (by omega) hb2.1 hb2.2 c6 c7,ht,by dsimp only;omega,hr⟩
 rw[if_neg k2]
 have hm:=mul_nn c.2.2.1 cu.2.2.2.1 c6 (by omega) hf0 (by omega)
 have ht2:=tm_range c6 c7 hf0 (by omega:cu.2.2.2.1<=4294967296)
 rw[hm]
 exact⟨cutst_mk _ _ _ hh hc0 hc (by dsimp only;omega) (by dsimp only;omega) ht2.1 ht2.2,watch_zero ht (by omega) hh,by dsimp only;omega,by dsimp only;omega⟩
theorem putL_mem(most:Bool) (l:List KpD) (x:KpD) (p:Nat) (h:p<l.length+1):nth zKp (putL' most l x) p=x\/∃ q,q<l.length/\nth zKp (putL' most l x) p=nth zKp l q:=by
 have hle:=atS_le most x l
 rw[putL_nth]
 by_cases c1:p<atS most x l
 ·rw[if_pos c1];exact .inr ⟨p,by omega,rfl⟩
 ·rw[if_neg c1]
  by_cases c2:p=atS most x l
  ·rw[if_pos c2];exact .inl rfl
  ·rw[if_neg c2];exact .inr ⟨p-1,by omega,rfl⟩
theorem put_kstep(most:Bool) (l:List KpD) (x:KpD) (hk:∀ i,i<l.length->KStep most l i) (hx:∀ i,i<l.length->(nth zKp l i).1<x.1):∀ i,i<l.length+1->KStep most (putL' most l x) i:=by
 intro i hi
 have hle:=atS_le most x l
 have hno:=atS_no most x l
 constructor
 ·intro k hki
  rw[putL_nth,putL_nth]
  by_cases c1:i<atS most x l
  ·rw[if_pos c1,if_pos (by omega)]
   exact(hk i (by omega)).1 k hki
  rw[if_neg c1]
  by_cases c2:i=atS most x l
  ·rw[if_pos c2,if_pos (by omega)]
   have:=hx k (by omega)
   omega
  rw[if_neg c2]
  by_cases c3:k<atS most x l
  ·rw[if_pos c3]
   exact(hk (i-1) (by omega)).1 k (by omega)
  rw[if_neg c3]
  by_cases c4:k=atS most x l
  ·rw[if_pos c4]
   have:=hx (i-1) (by omega)
   omega
  rw[if_neg c4]
  exact(hk (i-1) (by omega)).1 (k-1) (by omega)
 ·intro h0
  rw[putL_nth,putL_nth]
  by_cases c1:i<atS most x l
  ·rw[if_pos c1,if_pos (by omega)]
   exact(hk i (by omega)).2 h0
  rw[if_neg c1]
  by_cases c2:i=atS most x l
  ·rw[if_pos c2,if_pos (by omega)]
   refine⟨hno (i-1) (by omega),fun k=>?_⟩
   have:=hx (i-1) (by omega)
   omega
  rw[if_neg c2]
  by_cases c3:i-1=atS most x l
  ·rw[if_neg (by omega),if_pos c3,c3]
   have hy:=atS_yes most x l (by omega)
   generalize nth zKp l (atS most x l)=y at *
   unfold AheadB at *
   refine⟨fun k=>?_,fun k=>?_⟩
   ·cases most
    ·rw[if_neg Bool.false_ne_true] at *;omega
    ·rw[if_pos rfl] at *;omega
   ·cases most
    ·rw[if_neg Bool.false_ne_true] at *;omega
    ·rw[if_pos rfl] at *;omega
  rw[if_neg (by omega),if_neg c3]
  exact(hk (i-1) (by omega)).2 (by omega)
theorem nth_take{α:Type} (z:α) (l:List α) (n i:Nat) (h:i<n):nth z (l.take n) i=nth z l i:=by
 simp [nth,List.getD,List.getElem?_take,h]
theorem kstep_take(most:Bool) (l:List KpD) (n i:Nat) (h:i<n):KStep most (l.take n) i↔KStep most l i:=by
 unfold KStep
 rw[nth_take _ _ _ _ h]
 constructor
 ·rintro⟨h1,h2⟩
  refine⟨fun k hk=>?_,fun h0=>?_⟩
  ·have:=h1 k hk
   rwa [nth_take _ _ _ _ (by omega)] at this
  ·have:=h2 h0
   rwa [nth_take _ _ _ _ (by omega)] at this
 ·rintro⟨h1,h2⟩
  refine⟨fun k hk=>?_,fun h0=>?_⟩
  ·rw[nth_take _ _ _ _ (by omega)];exact h1 k hk
  ·rw[nth_take _ _ _ _ (by omega)];exact h2 h0
theorem put_ok(most:Bool) (c:Int) (l:List KpD) (x:KpD) (hk:KeptOk l c most) (hx:∀ i,i<l.length->(nth zKp l i).1<x.1) :
  KeptOk (PutS most c l x).1 c most/\(PutS most c l x).1.length<=l.length+1/\∀ i,i<(PutS most c l x).1.length->nth zKp (PutS most c l x).1 i=x\/∃ q,q<l.length/\nth zKp (PutS most c l x).1 i=nth zKp l q:=by
 have h1:=put_kstep most l x hk.1 hx
 have hl:=putL_len most l x
 have h2:=hk.2
 unfold PutS
 by_cases hc:(l.length:Int)+1<=c
 ·rw[if_pos hc]
  dsimp only
  rw[hl]
  exact⟨⟨fun i hi=>h1 i (by omega),by omega⟩,by omega,fun i hi=>putL_mem most l x i (by omega)⟩
 ·rw[if_neg hc]
  dsimp only
  have hlt:((putL' most l x).take l.length).length=l.length:=by rw[List.length_take,hl];omega
  rw[hlt]
  refine⟨⟨fun i hi=>?_,by omega⟩,by omega,fun i hi=>?_⟩
  ·rw[hlt] at hi
   exact(kstep_take most _ _ i hi).2 (h1 i (by omega))
  ·rw[nth_take _ _ _ _ hi]
   exact putL_mem most l x i (by omega)
theorem sumS_len(sw:SumD) (w:List Int):(SumS sw w).2.1.length=w.length:=by
 unfold SumS
 dsimp only
 split
 ·rfl
 ·rw[List.length_map,List.length_range]
theorem emaS_len(a w:List Int) (d:Int):(EmaS a w d).length=w.length:=by
 unfold EmaS
 split
 ·rfl
 ·rw[List.length_map,List.length_range]
theorem sumsF_up(f e:Int) (n:Nat):sumsF f e (n+1)=sumsF f e n+if SwaP f e n then 1 else 0:=rfl
theorem sumsF_first(f e:Int):∀ n:Nat,(n:Int)<=f->sumsF f e n=0
 | 0,_=>rfl
 | n+1,h=>by
  rw[sumsF_up,sumsF_first f e n (by omega),if_neg (fun k=>by have:=k.2.1;omega)]
  rfl
theorem step_ok(p:PlanD) (s:StateD) (x:InD) (hp:PlanOkD p) (hs:StateOkD p s) (hg:s.2.1=0) (hw:(x.2.1.length:Int)=p.2.1) (hn:-1<=p.2.2.2.2.2.2.2.2.2.2.2.2.1):StateOkD p (StT p s x):=by
 obtain⟨a0,a1,a2,a3,a4,sp,fz,tr,st,cu,ke,em,o1,o2,o3,sf,se,_⟩:=p
 obtain⟨step,stat,ended,stop,cut,kept,ema,⟨cnt,sums,_⟩,_⟩:=s
 obtain⟨hh,_,_,_,hst,hcu,hke,hav⟩:=hp
 obtain⟨s1,s2,s3,s4,s5⟩:=hs
 dsimp only at hg hw hn hh hst hcu hke hav s1 s2 s3 s4 s5
 subst hg
 have h1:0<=step/\step<a0/\ended=0/\¬ OutP st o1 (step,0,ended,stop,cut,kept,ema,(cnt,sums,()),()):=by
  rcases s1 with k | k
  ·exact k.2
  ·have:=k.2;dsimp only at this;omega
 obtain⟨g0,g1,g2,g3⟩:=h1
 subst g2
 obtain⟨n,rfl⟩:∃ n:Nat,step=n:=⟨step.toNat,by omega⟩
 unfold HeadOk at hh
 have hT:∀ r,TakenS ((n:Int),(0:Int),r)=n:=fun r=>by unfold TakenS;rw[if_neg (by dsimp only;omega)]
 have hL:∀ r,LooksS a4 ((n:Int),(0:Int),r)=looksF a4 n:=fun r=>by unfold LooksS;rw[hT,Int.toNat_natCast]
 have hup:=looks_up a4 n
 have hnn:=looks_nn a4 n
 unfold StateOkD StateOk
 unfold StT
 by_cases hf:FailN (a0,a1,a2,a3,a4,sp,fz,tr,st,cu,ke,em,o1,o2,o3,sf,se,()) ((n:Int),0,0,stop,cut,kept,ema,(cnt,sums,()),()) x
 ·rw[if_pos hf]
  dsimp only
  have hT3:∀ r,TakenS ((n:Int)+1,(3:Int),r)=n:=fun r=>by unfold TakenS;rw[if_pos rfl];dsimp only;omega
  have hL3:∀ r,LooksS a4 ((n:Int)+1,(3:Int),r)=looksF a4 n:=fun r=>by unfold LooksS;rw[hT3,Int.toNat_natCast]
  have e5:=s5
  unfold StopSt CutSt KeptSt AvgSt StepOkK at *
  simp only[hT,hL,hT3,hL3] at *
  refine⟨.inr ⟨⟨by dsimp only;omega,by dsimp only;omega,by dsimp only;omega⟩,.inr (.inr ⟨rfl,g3,hf.1.1,?_,?_⟩)⟩,s2,s3,s4,s5⟩
  ·have h2:=hf.1.2.1
   have h3:=hf.2.1
   have h4:=s5.2.1
   dsimp only at h2 h3 h4 ⊢
   rw[Int.toNat_natCast] at h4
   by_cases hx:sf<(n:Int)+1-1
   ·exact hx
   ·rw[sumsF_first sf se n (by omega)] at h4
    exact(h3 h4).elim
  ·have:=hf.1.2.2
   dsimp only at this ⊢
   rw[show(n:Int)+1-1-sf=(n:Int)-sf by omega]
   exact this
 rw[if_neg hf]
 dsimp only
 have hstN:∀ q,(q=0\/q=1\/q=2)->∀ r,TakenS ((n:Int)+1,q,r)=n+1:=fun q hq r=>by
  unfold TakenS;rw[if_neg (by dsimp only;omega)]
 obtain⟨q,hq⟩:∃ q:Int,q=(if OutN (a0,a1,a2,a3,a4,sp,fz,tr,st,cu,ke,em,o1,o2,o3,sf,se,()) ((n:Int),0,0,stop,cut,kept,ema,(cnt,sums,()),()) x then 2 else if(n:Int)+1=a0 then 1 else 0):=⟨_,rfl⟩
 have hq3:q=0\/q=1\/q=2:=by
  rw[hq];split
  ·exact .inr (.inr rfl)
  ·split
   ·exact .inr (.inl rfl)
   ·exact .inl rfl
 rw[← hq]
 have hTN:∀ r,TakenS ((n:Int)+1,q,r)=((n+1:Nat):Int):=hstN q hq3
 have hLN:∀ r,LooksS a4 ((n:Int)+1,q,r)=looksF a4 (n+1):=fun r=>by unfold LooksS;rw[hTN,Int.toNat_natCast]
 have hle:looksF a4 n<=looksF a4 (n+1):=by rw[hup];split<;>omega
 refine⟨?_,?_,?_,?_,?_⟩
 ·
  unfold StatusOk OutP
  dsimp only
  unfold OutP at g3
  dsimp only at g3
  by_cases ho:OutN (a0,a1,a2,a3,a4,sp,fz,tr,st,cu,ke,em,o1,o2,o3,sf,se,()) ((n:Int),0,0,stop,cut,kept,ema,(cnt,sums,()),()) x
  ·rw[if_pos ho] at hq
   rw[if_pos ho]
   subst hq
   have hlk:LookedP a4 (n:Int):=ho.1.1
   refine .inr ⟨⟨by omega,by omega,by omega⟩,.inr (.inl ⟨rfl,⟨fun k=>?_,ho.2⟩,(looked_next a4 n hlk.1).2 hlk⟩)⟩
   have h2:=ho.1.2.1
   dsimp only at h2
   omega
  ·rw[if_neg ho] at hq
   rw[if_neg ho]
   have hno:¬ (o1≠-1/\st.2.2.2.1<=(stopN (a0,a1,a2,a3,a4,sp,fz,tr,st,cu,ke,em,o1,o2,o3,sf,se,()) ((n:Int),0,0,stop,cut,kept,ema,(cnt,sums,()),()) x).2.2.1):=by
    rintro⟨k1,k2⟩
    by_cases hN:StN (a0,a1,a2,a3,a4,sp,fz,tr,st,cu,ke,em,o1,o2,o3,sf,se,()) ((n:Int),0,0,stop,cut,kept,ema,(cnt,sums,()),()) x
    ·exact ho ⟨hN,k2⟩
    ·unfold stopN at k2
     rw[if_neg hN] at k2
     exact g3 ⟨k1,k2⟩
   by_cases he:(n:Int)+1=a0
   ·rw[if_pos he] at hq
    rw[if_pos he]
    exact .inr ⟨⟨by omega,by omega,by omega⟩,.inl ⟨hq,he,hno⟩⟩
   ·rw[if_neg he] at hq
    rw[if_neg he]
    exact .inl ⟨hq,by omega,by omega,rfl,hno⟩
 ·
  unfold StopSt at s2 ⊢
  rw[hL] at s2
  rw[hLN]
  dsimp only at s2 ⊢
  unfold stopN
  rcases s2 with k | k
  ·refine .inl ⟨k.1,?_⟩
   rw[if_neg (fun h=>by have:=h.2.1;dsimp only at this;omega)]
   exact k.2
  ·refine .inr ⟨k.1,?_⟩
   by_cases hN:StN (a0,a1,a2,a3,a4,sp,fz,tr,st,cu,ke,em,o1,o2,o3,sf,se,()) ((n:Int),0,0,stop,cut,kept,ema,(cnt,sums,()),()) x
   ·rw[if_pos hN,hup,if_pos (show LookedP a4 (n:Int) from hN.1)]
    exact take_ok _ _ _ _ hnn.1 k.2
   ·rw[if_neg hN]
    exact watch_up k.2 hle
 ·
  unfold CutSt at s3 ⊢
  rw[hL] at s3
  rw[hLN]
  dsimp only at s3 ⊢
  unfold cutN
  rcases s3 with k | k
  ·refine .inl ⟨k.1,?_⟩
   rw[if_neg (fun h=>by have:=h.2.1;dsimp only at this;omega)]
   exact k.2
  ·refine .inr ⟨k.1,?_⟩
   have hc:1<=cu.2.2.2.2.1/\0<=cu.2.2.2.1/\cu.2.2.2.1<4294967296/\0<=cu.2.2.2.2.2.1/\cu.2.2.2.2.2.1<=1099511627776:=by
    unfold CutOk at hcu
    omega
   by_cases hN:CuN (a0,a1,a2,a3,a4,sp,fz,tr,st,cu,ke,em,o1,o2,o3,sf,se,()) ((n:Int),0,0,stop,cut,kept,ema,(cnt,sums,()),()) x
   ·rw[if_pos hN,hup,if_pos (show LookedP a4 (n:Int) from hN.1)]
    exact cut_good cu _ cut _ hnn.1 hc.1 hc.2.1 hc.2.2.1 hc.2.2.2.1 hc.2.2.2.2 k.2
   ·rw[if_neg hN]
    exact⟨k.2.1,watch_up k.2.2.1 hle,k.2.2.2⟩
 ·
  unfold KeptSt StepOkK at s4 ⊢
  rw[hL,hT] at s4
  rw[hLN,hTN]
  dsimp only at s4 ⊢
  unfold keptN
  rcases s4 with k | k
  ·refine .inl ⟨k.1,?_⟩
   rw[if_neg (fun h=>by have:=h.2.1;dsimp only at this;omega)]
   exact k.2
  ·refine .inr ⟨k.1,?_⟩
   by_cases hN:KeN (a0,a1,a2,a3,a4,sp,fz,tr,st,cu,ke,em,o1,o2,o3,sf,se,()) ((n:Int),0,0,stop,cut,kept,ema,(cnt,sums,()),()) x
   ·rw[if_pos hN,hup,if_pos (show LookedP a4 (n:Int) from hN.1)]
    obtain⟨r1,r2,r3⟩:=put_ok ke.2.2.1 ke.2.2.2.1 kept ((n:Int),valR x.1 o3,()) k.2.2.1 (fun i hi=>(k.2.2.2 i hi).2.1)
    unfold putN
    dsimp only
    refine⟨by have:=k.2.1;(try dsimp only at this ⊢);omega,r1,fun i hi=>?_⟩
    rcases r3 i hi with e | ⟨j,hj,e⟩
    ·rw[e]
     exact⟨by dsimp only;omega,by dsimp only;omega,hN.1⟩
    ·rw[e]
     have:=k.2.2.2 j hj
     exact⟨this.1,by have:=this.2.1;(try dsimp only at this ⊢);omega,this.2.2⟩
   ·rw[if_neg hN]
    refine⟨by have:=k.2.1;(try dsimp only at this ⊢);omega,k.2.2.1,fun i hi=>?_⟩
    have:=k.2.2.2 i hi
    exact⟨this.1,by have:=this.2.1;(try dsimp only at this ⊢);omega,this.2.2⟩
 ·
  unfold AvgSt at s5 ⊢
  rw[hT] at s5
  rw[hTN]
  dsimp only at s5 ⊢
  rw[Int.toNat_natCast] at s5 ⊢
  obtain⟨b1,b2,b3⟩:=s5
  have hsn:=sums_nn sf se n
  refine⟨?_,?_,?_⟩
  ·unfold emaN
   dsimp only
   by_cases he:em.1=true
   ·rw[if_pos he,if_pos ⟨he,by omega⟩,emaS_len]
    exact hw
   ·rw[if_neg he,if_neg (fun k=>he k.1),b1,if_neg (fun k=>he k.1)]
  ·unfold swaN
   rw[sumsF_up]
   by_cases hN:SwN (a0,a1,a2,a3,a4,sp,fz,tr,st,cu,ke,em,o1,o2,o3,sf,se,()) ((n:Int),0,0,stop,cut,kept,ema,(cnt,sums,()),())
   ·rw[if_pos hN,if_pos (show SwaP sf se (n:Int) from hN)]
    unfold SumS
    dsimp only
    omega
   ·rw[if_neg hN,if_neg (show ¬ SwaP sf se (n:Int) from hN)]
    dsimp only
    omega
  ·unfold swaN
   rw[sumsF_up]
   by_cases hN:SwN (a0,a1,a2,a3,a4,sp,fz,tr,st,cu,ke,em,o1,o2,o3,sf,se,()) ((n:Int),0,0,stop,cut,kept,ema,(cnt,sums,()),())
   ·rw[if_pos hN,if_pos (show SwaP sf se (n:Int) from hN),sumS_len,if_pos (by omega)]
    exact hw
   ·rw[if_neg hN,if_neg (show ¬ SwaP sf se (n:Int) from hN)]
    dsimp only
    rw[b3,Int.add_zero]
end Go.Proofs.YtmomjjgokeffnaaGreat.F
