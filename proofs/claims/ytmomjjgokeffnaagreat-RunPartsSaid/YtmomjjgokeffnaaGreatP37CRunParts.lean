/- States: status, watches, what is kept, averages. -/
import Derived.Test.YtmomjjgokeffnaaGreatP37BRunParts
set_option linter.unusedVariables false
set_option linter.unusedSectionVars false
set_option linter.unusedSimpArgs false
namespace Go.Proofs.YtmomjjgokeffnaaGreat.F
open Go.VX
open Classical
section
variable (a0 a1 a2 a3 a4:Int) (sp:List SpanD) (fz:List (List Bool)) (tr:List TrackD) (st:StopD) (cu:CutD) (ke:KeepD) (em:Bool×Int×Unit) (o1 o2 o3 sf se:Int) (s:StateD)
def OutP:Prop:=o1≠-1/\st.2.2.2.1<=s.2.2.2.1.2.2.1
def StatusOk:Prop:=(s.2.1=0/\0<=s.1/\s.1<a0/\s.2.2.1=0/\¬ OutP st o1 s)\/((1<=s.1/\s.1<=a0/\s.2.2.1=s.1-1)/\((s.2.1=1/\s.1=a0/\¬ OutP st o1 s)\/(s.2.1=2/\OutP st o1 s/\s.1 % a4=0)\/(s.2.1=3/\¬ OutP st o1 s/\0<se/\sf<s.1-1/\(s.1-1-sf) % se=0)))
theorem out_ok(h:StopOk a2 a4 o1 st):(cnd (decide (o1>=0)) (bnd (early_Out (s.2.2.2.1,st.2.2.2.1,())) fun r1=>some r1) (some false))=some (decide (OutP st o1 s)):=by
 unfold early_Out
 dsimp only
 have hc:o1=-1\/(o1>=0/\st.2.2.2.1>=1):=by
  unfold StopOk SeenOk at h
  omega
 rcases hc with hc | ⟨h1,h2⟩
 ·rw[decide_eq_false (by omega:¬ o1>=0),cnd_f,decide_eq_false (fun k:OutP st o1 s=>k.1 hc)]
 ·rw[decide_eq_true h1,decide_eq_true h2,cnd_t,cnd_t]
  simp only[bnd_mk]
  exact congrArg some (decide_eq_decide.2 ⟨fun k=>⟨by omega,k⟩,fun k=>k.2⟩)
theorem p_failed(ha:AvgOk a0 sf se em) (h0:1<=s.1) (h1:s.1<=1000000) (hh:a0<=1000000):state_failed ((a0,a1,a2,a3,a4,sp,fz,tr,st,cu,ke,em,o1,o2,o3,sf,se,()),s,())=some (decide (0<se/\sf<s.1-1/\(s.1-1-sf) % se=0)):=by
 have hr:0<=sf/\sf<=1000000:=by
  unfold AvgOk at ha
  omega
 unfold state_failed
 dsimp only
 rw[wr_id (x:=s.1-1) (by omega) (by omega)]
 by_cases k1:se>0
 ·by_cases k2:s.1-1>sf
  ·have hm:remI (s.1-1-sf) se=some ((s.1-1-sf) % se):=by
    unfold remI
    rw[if_neg (by omega),Int.tmod_eq_emod_of_nonneg (by omega)]
   rw[decide_eq_true k1,decide_eq_true k2,cnd_t,bnd_mk,cnd_t,wr_id (x:=s.1-1-sf) (by omega) (by omega),hm,bnd_mk,bnd_mk]
   exact congrArg some (decide_eq_decide.2 ⟨fun k=>⟨k1,k2,k⟩,fun k=>k.2.2⟩)
  ·rw[decide_eq_true k1,decide_eq_false k2,decide_eq_false (fun k:0<se/\sf<s.1-1/\(s.1-1-sf) % se=0=>k2 k.2.1)];rfl
 ·rw[decide_eq_false k1,decide_eq_false (fun k:0<se/\sf<s.1-1/\(s.1-1-sf) % se=0=>k1 k.1)];rfl
theorem p_status(hp:PlanOk a0 a1 a2 a3 a4 sp fz tr st cu ke em o1 o2 o3 sf se):state_status ((a0,a1,a2,a3,a4,sp,fz,tr,st,cu,ke,em,o1,o2,o3,sf,se,()),s,())=some (decide (StatusOk a0 a4 st o1 sf se s)):=by
 obtain⟨hh,_,_,_,hst,_,_,hav⟩:=hp
 unfold HeadOk at hh
 unfold state_status
 dsimp only
 rw[out_ok a2 a4 st o1 s hst,p_swithin,bnd_mk,bnd_mk,p_swithin,wr_id (x:=a0-1) (by omega) (by omega)]
 have hE:(cnd (decide (1<=s.1/\s.1<=a0)) (some (decide (s.2.2.1=(wr .i64 (s.1-1))))) (some false))=some (decide (1<=s.1/\s.1<=a0/\s.2.2.1=s.1-1)):=by
  by_cases h:1<=s.1/\s.1<=a0
  ·rw[decide_eq_true h,cnd_t,wr_id (x:=s.1-1) (by omega) (by omega)]
   exact congrArg some (decide_eq_decide.2 ⟨fun k=>⟨h.1,h.2,k⟩,fun k=>k.2.2⟩)
  ·rw[decide_eq_false h,cnd_f,decide_eq_false (fun k:1<=s.1/\s.1<=a0/\s.2.2.1=s.1-1=>h ⟨k.1,k.2.1⟩)]
 rw[hE,bnd_mk]
 have fin:∀ (b:Bool) (Q:Prop),(b=true↔Q)->some b=some (decide Q):=fun b Q h=>by
  congr 1
  rw[Bool.eq_iff_iff,h,decide_eq_true_eq]
 by_cases k0:s.2.1=0
 ·rw[decide_eq_true k0,cnd_t]
  simp only[bnd_mk,cnd_some_and]
  apply fin
  unfold StatusOk
  simp only[Bool.and_eq_true,decide_eq_true_eq,Bool.not_eq_true',decide_eq_false_iff_not]
  constructor
  ·rintro⟨⟨h1,h2⟩,h3⟩;exact .inl ⟨k0,by omega,by omega,h2,h3⟩
  ·rintro(⟨_,h1,h2,h3,h4⟩ | ⟨_,h | h | h⟩)
   ·exact⟨⟨by omega,h3⟩,h4⟩
   ·omega
   ·omega
   ·omega
 rw[decide_eq_false k0,cnd_f]
 by_cases k1:s.2.1=1
 ·rw[decide_eq_true k1,cnd_t]
  simp only[bnd_mk,cnd_some_and]
  apply fin
  unfold StatusOk
  simp only[Bool.and_eq_true,decide_eq_true_eq,Bool.not_eq_true',decide_eq_false_iff_not]
  constructor
  ·rintro⟨⟨h1,h2⟩,h3⟩;exact .inr ⟨h1,.inl ⟨k1,h2,h3⟩⟩
  ·rintro(⟨h,_⟩ | ⟨h1,h | h | h⟩)
   ·omega
   ·exact⟨⟨h1,h.2.1⟩,h.2.2⟩
   ·omega
   ·omega
 rw[decide_eq_false k1,cnd_f]
 by_cases k2:s.2.1=2
 ·rw[decide_eq_true k2,cnd_t]
  by_cases hE:1<=s.1/\s.1<=a0/\s.2.2.1=s.1-1
  ·by_cases ho:OutP st o1 s
   ·have h4:0<a4:=by
     unfold StopOk SeenOk at hst
     have:=ho.1
     omega
    have hm:remI s.1 a4=some (s.1 % a4):=by
     unfold remI
     rw[if_neg (by omega),Int.tmod_eq_emod_of_nonneg (by omega)]
    rw[decide_eq_true hE,decide_eq_true ho,cnd_t,bnd_mk,cnd_t,hm,bnd_mk,bnd_mk]
    apply fin
    unfold StatusOk
    rw[decide_eq_true_eq]
    constructor
    ·intro h;exact .inr ⟨hE,.inr (.inl ⟨k2,ho,h⟩)⟩
    ·rintro(⟨h,_⟩ | ⟨_,h | h | h⟩)
     ·omega
     ·omega
     ·exact h.2.2
     ·omega
   ·rw[decide_eq_false ho,decide_eq_false (fun k:StatusOk a0 a4 st o1 sf se s=>by
     unfold StatusOk at k
     rcases k with⟨h,_⟩ | ⟨_,h | h | h⟩
     ·omega
     ·omega
     ·exact ho h.2.1
     ·omega)]
    cases decide (1<=s.1/\s.1<=a0/\s.2.2.1=s.1-1)<;>rfl
  ·rw[decide_eq_false hE,decide_eq_false (fun k:StatusOk a0 a4 st o1 sf se s=>by
     unfold StatusOk at k
     rcases k with⟨h,_⟩ | ⟨h,_⟩
     ·omega
     ·exact hE h)]
   rfl
 rw[decide_eq_false k2,cnd_f]
 by_cases k3:s.2.1=3
 ·rw[decide_eq_true k3,cnd_t]
  by_cases hE:1<=s.1/\s.1<=a0/\s.2.2.1=s.1-1
  ·by_cases ho:OutP st o1 s
   ·rw[decide_eq_true hE,decide_eq_true ho,decide_eq_false (fun k:StatusOk a0 a4 st o1 sf se s=>by
     unfold StatusOk at k
     rcases k with⟨h,_⟩ | ⟨_,h | h | h⟩
     ·omega
     ·omega
     ·omega
     ·exact h.2.1 ho)]
    rfl
   ·rw[decide_eq_true hE,decide_eq_false ho,cnd_t,bnd_mk,Bool.not_false,cnd_t,p_failed a0 a1 a2 a3 a4 sp fz tr st cu ke em o1 o2 o3 sf se s hav hE.1 (by omega) (by omega),bnd_mk,bnd_mk]
    refine congrArg some (decide_eq_decide.2 ?_)
    unfold StatusOk
    constructor
    ·intro h;exact .inr ⟨hE,.inr (.inr ⟨k3,ho,h⟩)⟩
    ·rintro(⟨h,_⟩ | ⟨_,h | h | h⟩)
     ·omega
     ·omega
     ·omega
     ·exact h.2.2
  ·rw[decide_eq_false hE,decide_eq_false (fun k:StatusOk a0 a4 st o1 sf se s=>by
     unfold StatusOk at k
     rcases k with⟨h,_⟩ | ⟨h,_⟩
     ·omega
     ·exact hE h)]
   rfl
 ·rw[decide_eq_false k3,cnd_f,decide_eq_false (fun k:StatusOk a0 a4 st o1 sf se s=>by
     unfold StatusOk at k
     omega)]
end
end Go.Proofs.YtmomjjgokeffnaaGreat.F
