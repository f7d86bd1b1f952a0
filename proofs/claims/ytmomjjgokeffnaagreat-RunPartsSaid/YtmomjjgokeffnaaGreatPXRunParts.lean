/- Plans: which ones there may be. -/
import Derived.Test.YtmomjjgokeffnaaGreatPWRunParts
set_option linter.unusedVariables false
set_option linter.unusedSectionVars false
set_option linter.unusedSimpArgs false
namespace Go.Proofs.YtmomjjgokeffnaaGreat.F
open Go.VX
open Classical
abbrev TrackD:=Int×Int×List SegD×Unit
abbrev SpanD:=Int×Int×Unit
abbrev zSpan:SpanD:=(0,0,())
def SpanOk(l:List SpanD) (i:Nat):Prop:=(nth zSpan l i).1<(nth zSpan l i).2.1/\(nth zSpan l i).1=if i=0 then 0 else(nth zSpan l (i-1)).2.1
theorem p_spans(p) (l:List SpanD) (e:p.2.2.2.2.2.1=l) (hl:l.length<=9223372036854775807):plan_spans (p,())=some (decide ((∀ i,i<l.length->SpanOk l i)/\(if l.length=0 then 0 else(nth zSpan l (l.length-1)).2.1)=p.1/\l.length<=16)):=by
 subst e
 unfold plan_spans
 dsimp only
 obtain⟨r,e,h⟩:=loop_rule (ρ:=(Int×Unit) ⊕ Bool) (f:=(fun(s2:Int×Int×Unit)=>cnd (decide (s2.2.1<(p.2.2.2.2.2.1.length:Int))) (bnd (ati p.2.2.2.2.2.1 s2.2.1) fun v3=>bnd (cnd (!(!decide (v3.1=s2.1))) (some (decide (v3.2.1<=s2.1))) (some true)) fun j4=>cnd j4 (inrE (inrE (some false))) (inlE (v3.2.1,wr .i64 (s2.2.1+1),()))) (inrE (inlE (s2.1,())))))
  (fun s=>0<=s.2.1/\s.2.1<=p.2.2.2.2.2.1.length/\s.1=(if s.2.1.toNat=0 then 0 else(nth zSpan p.2.2.2.2.2.1 (s.2.1.toNat-1)).2.1)/\∀ i,i<s.2.1.toNat->SpanOk p.2.2.2.2.2.1 i) (fun s=>p.2.2.2.2.2.1.length-s.2.1.toNat)
  (fun r=>(r=.inl ((if p.2.2.2.2.2.1.length=0 then 0 else(nth zSpan p.2.2.2.2.2.1 (p.2.2.2.2.2.1.length-1)).2.1),())/\∀ i,i<p.2.2.2.2.2.1.length->SpanOk p.2.2.2.2.2.1 i)\/(r=.inr false/\¬ ∀ i,i<p.2.2.2.2.2.1.length->SpanOk p.2.2.2.2.2.1 i)) (fun s ⟨i0,i1,i2,i3⟩=>by
   obtain⟨at',i,_⟩:=s
   dsimp only at *
   obtain⟨k,rfl⟩:∃ k:Nat,i=k:=⟨i.toNat,by omega⟩
   rw[Int.toNat_natCast] at i2
   by_cases hk:k<p.2.2.2.2.2.1.length
   ·rw[lt_true hk,cnd_t,ati_d zSpan hk,bnd_mk,wr_succ hk hl]
    by_cases ho:SpanOk p.2.2.2.2.2.1 k
    ·left
     have ho':=ho
     unfold SpanOk at ho'
     rw[← i2] at ho'
     refine⟨((nth zSpan p.2.2.2.2.2.1 k).2.1,(k:Int)+1,()),?_,⟨by dsimp only;omega,by dsimp only;omega,?_,fun j hj=>?_⟩,by dsimp only;omega⟩
     ·rw[decide_eq_true ho'.2,decide_eq_false (by omega)];rfl
     ·dsimp only
      rw[if_neg (by omega)]
      congr 3
     ·dsimp only at hj
      by_cases hjk:j=k
      ·exact hjk ▸ ho
      ·exact i3 j (by omega)
    ·right
     refine⟨.inr false,?_,.inr ⟨rfl,fun h=>ho (h k hk)⟩⟩
     have ho':=ho
     unfold SpanOk at ho'
     rw[← i2] at ho'
     by_cases h1:(nth zSpan p.2.2.2.2.2.1 k).1=at'
     ·rw[decide_eq_true h1,decide_eq_true (by omega)];rfl
     ·rw[decide_eq_false h1];rfl
   ·right
    have hkn:k=p.2.2.2.2.2.1.length:=by omega
    subst hkn
    rw[lt_false,cnd_f]
    refine⟨_,rfl,.inl ⟨?_,fun j hj=>i3 j (by omega)⟩⟩
    rw[← i2]) (0,0,()) ⟨Int.le_refl _,by dsimp only;omega,rfl,fun j hj=>by simp at hj⟩
 rw[e]
 rcases h with⟨rfl,h⟩ | ⟨rfl,h⟩
 ·rw[bndS_l]
  simp only[bnd_mk,cnd_if,ite_some]
  congr 1
  generalize (if p.2.2.2.2.2.1.length=0 then(0:Int) else(nth zSpan p.2.2.2.2.2.1 (p.2.2.2.2.2.1.length-1)).2.1)=a
  rw[Bool.eq_iff_iff]
  simp only[decide_eq_true_eq,Bool.if_false_right,Bool.and_eq_true]
  constructor
  ·intro x
   exact⟨h,x.1,by omega⟩
  ·intro x
   exact⟨x.2.1,by omega⟩
 ·rw[bndS_r]
  simp [h]
theorem p_frozen(p) (l:List (List Bool)) (e:p.2.2.2.2.2.2.1=l) (hl:l.length<=9223372036854775807):plan_frozen (p,())=some (decide ((∀ i,i<l.length->((nth [] l i).length:Int)=p.2.2.2.1)/\l.length=p.2.2.2.2.2.1.length)):=by
 subst e
 unfold plan_frozen
 dsimp only
 rw[all_as (∀ i,i<p.2.2.2.2.2.2.1.length->((nth [] p.2.2.2.2.2.2.1 i).length:Int)=p.2.2.2.1) p.2.2.2.2.2.2.1.length (fun i=>((nth [] p.2.2.2.2.2.2.1 i).length:Int)=p.2.2.2.1) _ (.inr false) (.inl ()) Iff.rfl]
 ·rw[bndS_ite]
  simp only[ite_some]
  congr 1
  refine ite_dec ?_
  omega
 ·intro i hi _
  dsimp only
  rw[lt_true hi,cnd_t,ati_d [] hi,bnd_mk,wr_succ hi hl]
  by_cases h:((nth [] p.2.2.2.2.2.2.1 i).length:Int)=p.2.2.2.1
  ·simp [h,cnd_if,inlE]
  ·simp [h,cnd_if,inrE_mk]
 ·intro _
  dsimp only
  rw[lt_false,cnd_f]
  rfl
abbrev zTrack:TrackD:=(0,0,[],())
def TrackOk(steps:Int) (i:Nat) (t:TrackD):Prop:=t.1=wr .i64 (Int.tdiv i 3)/\t.2.1=Int.tmod i 3/\SegsOk t.2.2.1/\0<t.2.2.1.length/\(nth zSeg t.2.2.1 0).1=0/\(nth zSeg t.2.2.1 (t.2.2.1.length-1)).2.1=steps
theorem p_tracks(p) (l:List TrackD) (e:p.2.2.2.2.2.2.2.1=l) (hl:l.length<=9223372036854775807) (hs:∀ t∈l,t.2.2.1.length<=9223372036854775807):plan_tracks (p,())=some (decide ((∀ i,i<l.length->TrackOk p.1 i (nth zTrack l i))/\(l.length:Int)=wr .i64 (p.2.2.2.1*3))):=by
 subst e
 unfold plan_tracks
 dsimp only
 rw[all_as (∀ i,i<p.2.2.2.2.2.2.2.1.length->TrackOk p.1 i (nth zTrack p.2.2.2.2.2.2.2.1 i)) p.2.2.2.2.2.2.2.1.length (fun i=>TrackOk p.1 i (nth zTrack p.2.2.2.2.2.2.2.1 i)) _ (.inr false) (.inl ()) Iff.rfl]
 ·rw[bndS_ite]
  simp only[ite_some]
  congr 1
  refine ite_dec Iff.rfl
 ·intro i hi _
  dsimp only
  rw[lt_true hi,cnd_t,ati_d zTrack hi,bnd_mk,wr_succ hi hl]
  have hm:nth zTrack p.2.2.2.2.2.2.2.1 i∈p.2.2.2.2.2.2.2.1:=nth_mem hi
  have hls:=hs _ hm
  rw[p_segs _ hls]
  unfold TrackOk
  generalize nth zTrack p.2.2.2.2.2.2.2.1 i=t at *
  generalize wr .i64 (Int.tdiv i 3)=u
  generalize Int.tmod (i:Int) 3=v
  by_cases h1:t.1=u
  ·by_cases h2:t.2.1=v
   ·by_cases h3:SegsOk t.2.2.1
    ·by_cases h4:0<t.2.2.1.length
     ·rw[ati_0 zSeg h4,ati_last zSeg h4 hls]
      by_cases h5:(nth zSeg t.2.2.1 0).1=0
      ·by_cases h6:(nth zSeg t.2.2.1 (t.2.2.1.length-1)).2.1=p.1
       ·simp [h1,h2,h3,h4,h5,h6,cnd_if,bnd_mk,inlE,inrE_mk]
       ·simp [h1,h2,h3,h4,h5,h6,cnd_if,bnd_mk,inlE,inrE_mk]
      ·simp [h1,h2,h3,h4,h5,cnd_if,bnd_mk,inlE,inrE_mk]
     ·simp [h1,h2,h3,h4,cnd_if,bnd_mk,inlE,inrE_mk]
    ·simp [h1,h2,h3,cnd_if,bnd_mk,inlE,inrE_mk]
   ·simp [h1,h2,cnd_if,bnd_mk,inlE,inrE_mk]
  ·simp [h1,cnd_if,bnd_mk,inlE,inrE_mk]
 ·intro _
  dsimp only
  rw[lt_false,cnd_f]
  rfl
theorem dec_wr(m:Int) (h0:0<=m) (h:m<=4):wr .i64 (m-1)=m-1:=wr_id (by omega) (by omega)
abbrev PlanD:=Int×Int×Int×Int×Int×List SpanD×List (List Bool)×List TrackD×(Bool×List Int×Bool×Int×Int×Bool×Unit)×(Bool×List Int×Bool×Int×Int×Int×Int×Int×Unit)×(Bool×List Int×Bool×Int×Unit)×(Bool×Int×Unit)×Int×Int×Int×Int×Int×Unit
abbrev tStop:Ty:=.pr .bool (.pr .str (.pr .bool (.pr (.int .i64) (.pr (.int .i64) (.pr .bool .unit)))))
abbrev tCut:Ty:=.pr .bool (.pr .str (.pr .bool (.pr (.int .i64) (.pr (.int .i64) (.pr (.int .i64) (.pr (.int .i64) (.pr (.int .i64) .unit)))))))
abbrev tKeep:Ty:=.pr .bool (.pr .str (.pr .bool (.pr (.int .i64) .unit)))
abbrev StopD:=Bool×List Int×Bool×Int×Int×Bool×Unit
abbrev CutD:=Bool×List Int×Bool×Int×Int×Int×Int×Int×Unit
abbrev KeepD:=Bool×List Int×Bool×Int×Unit
def SeenOk(metrics eval on:Int) (metric:List Int) (b:Bool):Prop:=0<=on/\on<metrics/\metric=[]/\b=true/\0<eval
def StopOk(a2 a4 on:Int) (s:StopD):Prop:=(on=-1/\eqT tStop s (false,[],false,0,0,false,())=true)\/(on≠-1/\SeenOk a2 a4 on s.2.1 s.1/\1<=s.2.2.2.1/\s.2.2.2.1<=1099511627776/\0<=s.2.2.2.2.1/\s.2.2.2.2.1<=4503599627370496)
def CutOk(a2 a4 on:Int) (s:CutD):Prop:=(on=-1/\eqT tCut s (false,[],false,0,0,0,0,0,())=true)\/(on≠-1/\SeenOk a2 a4 on s.2.1 s.1/\1<=s.2.2.2.2.1/\s.2.2.2.2.1<=1099511627776/\0<=s.2.2.2.2.2.2.2.1/\s.2.2.2.2.2.2.2.1<=4503599627370496/\0<=s.2.2.2.2.2.2.1/\s.2.2.2.2.2.2.1<=4503599627370496/\0<=s.2.2.2.1/\s.2.2.2.1<=4294967295/\0<=s.2.2.2.2.2.1/\s.2.2.2.2.2.1<=1099511627776)
def KeepOk(a2 a4 on:Int) (s:KeepD):Prop:=(on=-1/\eqT tKeep s (false,[],false,0,())=true)\/(on≠-1/\SeenOk a2 a4 on s.2.1 s.1/\1<=s.2.2.2.1/\s.2.2.2.1<=16)
def AvgOk(a0 sf se:Int) (em:Bool×Int×Unit):Prop:=(eqT (.pr .bool (.pr (.int .i64) .unit)) em (false,0,())=true\/(em.1=true/\0<=em.2.1/\em.2.1<=4294967296))/\((se=0/\sf=0)\/(1<=se/\se<=1099511627776/\0<=sf/\sf<=a0))
section
variable (a0 a1 a2 a3 a4:Int) (sp:List SpanD) (fz:List (List Bool)) (tr:List TrackD) (st:StopD) (cu:CutD) (ke:KeepD) (em:Bool×Int×Unit) (o1 o2 o3 sf se:Int)
theorem p_stop(h0:0<=a2) (h:a2<=4):plan_stop ((a0,a1,a2,a3,a4,sp,fz,tr,st,cu,ke,em,o1,o2,o3,sf,se,()),())=some (decide (StopOk a2 a4 o1 st)):=by
 obtain⟨b1,m1,c1,n1,n2,c2,_⟩:=st
 unfold plan_stop plan_seen plan_count plan_value plan_within StopOk SeenOk
 dsimp only
 rw[dec_wr _ h0 h]
 simp only[bnd_mk,cnd_if,ite_some]
 congr 1
 rw[Bool.eq_iff_iff]
 generalize eqT _ _ _=b
 by_cases h1:o1=-1
 ·simp [h1]
 ·by_cases h2:m1=[]
  ·cases b1<;>simp [h1,h2]
   omega
  ·simp [h1,h2]
theorem p_cut(h0:0<=a2) (h:a2<=4):plan_cut ((a0,a1,a2,a3,a4,sp,fz,tr,st,cu,ke,em,o1,o2,o3,sf,se,()),())=some (decide (CutOk a2 a4 o2 cu)):=by
 obtain⟨b1,m1,c1,n1,n2,n3,n4,n5,_⟩:=cu
 unfold plan_cut plan_seen plan_count plan_value plan_within CutOk SeenOk
 dsimp only
 rw[dec_wr _ h0 h]
 simp only[bnd_mk,cnd_if,ite_some]
 congr 1
 rw[Bool.eq_iff_iff]
 generalize eqT _ _ _=b
 by_cases h1:o2=-1
 ·simp [h1]
 ·by_cases h2:m1=[]
  ·cases b1<;>simp [h1,h2]
   omega
  ·simp [h1,h2]
theorem p_keep(h0:0<=a2) (h:a2<=4):plan_keep ((a0,a1,a2,a3,a4,sp,fz,tr,st,cu,ke,em,o1,o2,o3,sf,se,()),())=some (decide (KeepOk a2 a4 o3 ke)):=by
 obtain⟨b1,m1,c1,n1,_⟩:=ke
 unfold plan_keep plan_seen plan_within KeepOk SeenOk
 dsimp only
 rw[dec_wr _ h0 h]
 simp only[bnd_mk,cnd_if,ite_some]
 congr 1
 rw[Bool.eq_iff_iff]
 generalize eqT _ _ _=b
 by_cases h1:o3=-1
 ·simp [h1]
 ·by_cases h2:m1=[]
  ·cases b1<;>simp [h1,h2]
   omega
  ·simp [h1,h2]
theorem p_avg:plan_averages ((a0,a1,a2,a3,a4,sp,fz,tr,st,cu,ke,em,o1,o2,o3,sf,se,()),())=some (decide (AvgOk a0 sf se em)):=by
 obtain⟨b1,n1,_⟩:=em
 unfold plan_averages plan_count plan_within AvgOk
 dsimp only
 simp only[bnd_mk,cnd_if,ite_some]
 congr 1
 rw[Bool.eq_iff_iff]
 generalize eqT _ _ _=b
 by_cases h1:se=0
 ·cases b<;>cases b1<;>simp [h1]
 ·cases b<;>cases b1<;>simp [h1]
  all_goals omega
def HeadOk:Prop:=1<=a0/\a0<=1000000/\0<=a1/\a1<=16/\0<=a2/\a2<=4/\1<=a3/\a3<=8/\0<=a4/\a4<=a0
def SpansAll:Prop:=(∀ i,i<sp.length->SpanOk sp i)/\(if sp.length=0 then 0 else(nth zSpan sp (sp.length-1)).2.1)=a0/\sp.length<=16
def FrozenAll:Prop:=(∀ i,i<fz.length->((nth [] fz i).length:Int)=a3)/\fz.length=sp.length
def TracksAll:Prop:=(∀ i,i<tr.length->TrackOk a0 i (nth zTrack tr i))/\(tr.length:Int)=wr .i64 (a3*3)
def PlanOk:Prop:=HeadOk a0 a1 a2 a3 a4/\SpansAll a0 sp/\FrozenAll a3 sp fz/\TracksAll a0 a3 tr/\StopOk a2 a4 o1 st/\CutOk a2 a4 o2 cu/\KeepOk a2 a4 o3 ke/\AvgOk a0 sf se em
theorem p_plan(hs:sp.length<=9223372036854775807) (hf:fz.length<=9223372036854775807) (ht:tr.length<=9223372036854775807) (hg:∀ t∈tr,t.2.2.1.length<=9223372036854775807):plan_Check ((a0,a1,a2,a3,a4,sp,fz,tr,st,cu,ke,em,o1,o2,o3,sf,se,()),())=some (if PlanOk a0 a1 a2 a3 a4 sp fz tr st cu ke em o1 o2 o3 sf se then 0 else 1):=by
 unfold plan_Check
 dsimp only
 rw[show plan_spans ((a0,a1,a2,a3,a4,sp,fz,tr,st,cu,ke,em,o1,o2,o3,sf,se,()),())=some (decide (SpansAll a0 sp)) from(p_spans _ sp rfl hs).trans (congrArg some (decide_eq_decide.2 Iff.rfl)),show plan_frozen ((a0,a1,a2,a3,a4,sp,fz,tr,st,cu,ke,em,o1,o2,o3,sf,se,()),())=some (decide (FrozenAll a3 sp fz)) from(p_frozen _ fz rfl hf).trans (congrArg some (decide_eq_decide.2 Iff.rfl)),show plan_tracks ((a0,a1,a2,a3,a4,sp,fz,tr,st,cu,ke,em,o1,o2,o3,sf,se,()),())=some (decide (TracksAll a0 a3 tr)) from(p_tracks _ tr rfl ht hg).trans (congrArg some (decide_eq_decide.2 Iff.rfl))]
 unfold plan_within
 dsimp only
 by_cases h:HeadOk a0 a1 a2 a3 a4
 ·have h':=h
  unfold HeadOk at h'
  rw[p_stop _ _ _ _ _ _ _ _ _ _ _ _ _ _ _ _ _ h'.2.2.2.2.1 h'.2.2.2.2.2.1,p_cut _ _ _ _ _ _ _ _ _ _ _ _ _ _ _ _ _ h'.2.2.2.2.1 h'.2.2.2.2.2.1,p_keep _ _ _ _ _ _ _ _ _ _ _ _ _ _ _ _ _ h'.2.2.2.2.1 h'.2.2.2.2.2.1,p_avg]
  rw[decide_eq_true (by omega:a0>=1),decide_eq_true (by omega:a0<=1000000),decide_eq_true (by omega:a1>=0),decide_eq_true (by omega:a1<=16),decide_eq_true (by omega:a2>=0),decide_eq_true (by omega:a2<=4),decide_eq_true (by omega:a3>=1),decide_eq_true (by omega:a3<=8),decide_eq_true (by omega:a4>=0),decide_eq_true (by omega:a4<=a0)]
  simp only[bnd_mk,cnd_t,cnd_f,cnd_if,ite_some]
  congr 1
  unfold PlanOk
  by_cases b1:SpansAll a0 sp<;>by_cases b2:FrozenAll a3 sp fz<;>by_cases b3:TracksAll a0 a3 tr<;>simp only[h,b1,b2,b3,decide_true,decide_false,Bool.not_true,Bool.not_false,if_true,if_false,true_and,false_and,and_false,Bool.false_eq_true]
  by_cases b4:StopOk a2 a4 o1 st<;>by_cases b5:CutOk a2 a4 o2 cu<;>by_cases b6:KeepOk a2 a4 o3 ke<;>by_cases b7:AvgOk a0 sf se em<;>simp only[b4,b5,b6,b7,decide_true,decide_false,Bool.not_true,Bool.not_false,if_true,if_false,true_and,false_and,and_false,Bool.false_eq_true]
 ·have hn:¬ PlanOk a0 a1 a2 a3 a4 sp fz tr st cu ke em o1 o2 o3 sf se:=fun x=>h x.1
  rw[if_neg hn]
  unfold HeadOk at h
  simp only[bnd_mk,cnd_if,ite_some]
  by_cases c1:1<=a0/\a0<=1000000/\0<=a1/\a1<=16/\0<=a2/\a2<=4
  ·rw[decide_eq_true (by omega:a0>=1),decide_eq_true (by omega:a0<=1000000),decide_eq_true (by omega:a1>=0),decide_eq_true (by omega:a1<=16),decide_eq_true (by omega:a2>=0),decide_eq_true (by omega:a2<=4)]
   rw[if_neg (by simp),if_pos]
   by_cases c2:1<=a3/\a3<=8
   ·have c3:¬ (0<=a4/\a4<=a0):=by omega
    by_cases c4:0<=a4
    ·simp [c2,c4,show ¬ a4<=a0 by omega]
    ·simp [c2,c4]
   ·by_cases c4:1<=a3
    ·simp [c4,show ¬ a3<=8 by omega]
    ·simp [c4]
  ·rw[if_pos]
   by_cases d1:1<=a0
   ·by_cases d2:a0<=1000000
    ·by_cases d3:0<=a1
     ·by_cases d4:a1<=16
      ·by_cases d5:0<=a2
       ·simp [d1,d2,d3,d4,d5,show ¬ a2<=4 by omega]
       ·simp [d1,d2,d3,d4,d5]
      ·simp [d1,d2,d3,d4]
     ·simp [d1,d2,d3]
    ·simp [d1,d2]
   ·simp [d1]
end
section
variable (a0 a1 a2 a3 a4:Int) (sp:List SpanD) (fz:List (List Bool)) (tr:List TrackD) (st:StopD) (cu:CutD) (ke:KeepD) (em:Bool×Int×Unit) (o1 o2 o3 sf se:Int)
theorem light:∃ q,l28_Light ((a0,a1,a2,a3,a4,sp,fz,tr,st,cu,ke,em,o1,o2,o3,sf,se,()),())=some q:=by
 unfold l28_Light
 dsimp only
 rw[all_as (∀ i,i<min tr.length 31->(nth zTrack tr i).2.2.1.length<=60) (min tr.length 31) (fun i=>(nth zTrack tr i).2.2.1.length<=60) _ (.inr false) (.inl ()) Iff.rfl]
 ·rw[bndS_ite,all_as (∀ i,i<min fz.length 21->(nth [] fz i).length<=60) (min fz.length 21) (fun i=>(nth [] fz i).length<=60) _ (.inr false) (.inl ()) Iff.rfl]
  ·rw[bndS_ite]
   simp only[bnd_mk,cnd_if,ite_some]
   exact⟨_,rfl⟩
  ·intro i hi _
   dsimp only
   have h1:i<fz.length:=by omega
   rw[decide_eq_true (by omega:(i:Int)<(fz.length:Int)),decide_eq_true (by omega:(i:Int)<=20),ati_d [] h1,wr_succ hi (by omega)]
   by_cases h:(nth [] fz i).length<=60
   ·have h':¬ ((nth [] fz i).length:Int)>60:=by omega
    rw[if_pos h]
    simp only[bnd_mk,cnd_t]
    rw[decide_eq_false h']
    rfl
   ·have h':((nth [] fz i).length:Int)>60:=by omega
    rw[if_neg h]
    simp only[bnd_mk,cnd_t]
    rw[decide_eq_true h']
    rfl
  ·intro _
   dsimp only
   by_cases h:fz.length<21
   ·rw[decide_eq_false (by omega:¬ ((min fz.length 21:Nat):Int)<(fz.length:Int))];rfl
   ·rw[decide_eq_false (by omega:¬ ((min fz.length 21:Nat):Int)<=20)]
    cases decide (((min fz.length 21:Nat):Int)<(fz.length:Int))<;>rfl
 ·intro i hi _
  dsimp only
  have h1:i<tr.length:=by omega
  rw[decide_eq_true (by omega:(i:Int)<(tr.length:Int)),decide_eq_true (by omega:(i:Int)<=30),ati_d zTrack h1,wr_succ hi (by omega)]
  by_cases h:(nth zTrack tr i).2.2.1.length<=60
  ·have h':¬ ((nth zTrack tr i).2.2.1.length:Int)>60:=by omega
   rw[if_pos h]
   simp only[bnd_mk,cnd_t]
   rw[decide_eq_false h']
   rfl
  ·have h':((nth zTrack tr i).2.2.1.length:Int)>60:=by omega
   rw[if_neg h]
   simp only[bnd_mk,cnd_t]
   rw[decide_eq_true h']
   rfl
 ·intro _
  dsimp only
  by_cases h:tr.length<31
  ·rw[decide_eq_false (by omega:¬ ((min tr.length 31:Nat):Int)<(tr.length:Int))];rfl
  ·rw[decide_eq_false (by omega:¬ ((min tr.length 31:Nat):Int)<=30)]
   cases decide (((min tr.length 31:Nat):Int)<(tr.length:Int))<;>rfl
end
end Go.Proofs.YtmomjjgokeffnaaGreat.F
