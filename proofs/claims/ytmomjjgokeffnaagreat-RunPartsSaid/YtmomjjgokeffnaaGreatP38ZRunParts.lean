/- The turn: looks, weights, and the whole step: the program's and the reference's. -/
import Derived.Test.YtmomjjgokeffnaaGreatP38YRunParts
set_option linter.unusedVariables false
set_option linter.unusedSectionVars false
set_option linter.unusedSimpArgs false
namespace Go.Proofs.YtmomjjgokeffnaaGreat.F
open Go.VX
open Classical
def misL(l:List RdD):Nat->List Int
 | 0=>[]
 | k+1=>misL l k++if(nth zRd l k).1=false then [(k:Int)] else []
theorem misL_len(l:List RdD):∀ k,(misL l k).length<=k
 | 0=>Nat.le_refl _
 | k+1=>by
  have:=misL_len l k
  simp only[misL,List.length_append]
  split<;>simp<;>omega
theorem p_mis(x:InD) (hl:x.1.length<=1000):reading_Missing (x,())=some (misL x.1 x.1.length):=by
 unfold reading_Missing
 dsimp only
 rw[grow_loop _ (fun k=>(misL x.1 k,(k:Int),())) x.1.length (misL x.1 x.1.length,()) _ ?_ ?_ ?_]
 ·rfl
 ·rfl
 ·intro k hk
  have:=misL_len x.1 k
  dsimp only
  rw[lt_true hk,cnd_t,ati_d zRd hk,bnd_mk,app_ok (by rw[List.length_singleton];omega),wr_succ hk (by omega)]
  simp only[misL]
  cases(nth zRd x.1 k).1<;>simp [bnd_mk,cnd_t,cnd_f,inlE]
 ·dsimp only
  rw[lt_false,cnd_f]
  rfl
theorem p_cont3(a b c v:Int):slices_Contains_int_int ([a,b,c],v,())=some (decide (a=v\/b=v\/c=v)):=by
 unfold slices_Contains_int_int slices_Index_int_int
 dsimp only
 rcases find_loop (ρ:=Unit ⊕ Int) (fun(s2:Int×Unit)=>cnd (decide (s2.1<([a,b,c].length:Int))) (bnd (ati [a,b,c] s2.1) fun v3=>cnd (decide (v=v3)) (inrE (inrE (some s2.1))) (inlE (wr .i64 (s2.1+1),()))) (inrE (inlE (())))) (fun k=>((k:Int),())) 3 (fun k=>v=nth 0 [a,b,c] k) (0,()) rfl (fun k hk hb=>by
  dsimp only
  rw[lt_true (show k<[a,b,c].length from hk),cnd_t,ati_d 0 (show k<[a,b,c].length from hk),bnd_mk,decide_eq_false hb,cnd_f,wr_succ hk (by omega)]
  rfl) with⟨k,hk,hb,e⟩ | ⟨hb,e⟩
 ·rw[e,loopP_done (r:=.inr (k:Int)) (by
   dsimp only
   rw[lt_true (show k<[a,b,c].length from hk),cnd_t,ati_d 0 (show k<[a,b,c].length from hk),bnd_mk,decide_eq_true hb,cnd_t]
   rfl),bndS_r,bnd_mk,decide_eq_true (by omega)]
  refine congrArg some (dec_yes ?_)
  rcases (by omega:k=0\/k=1\/k=2) with rfl | rfl | rfl
  ·exact .inl hb.symm
  ·exact .inr (.inl hb.symm)
  ·exact .inr (.inr hb.symm)
 ·rw[e,loopP_done (r:=.inl ()) rfl,bndS_l,bnd_mk,decide_eq_false (by omega)]
  refine congrArg some (dec_no ?_)
  rintro(h | h | h)
  ·exact hb 0 (by omega) h.symm
  ·exact hb 1 (by omega) h.symm
  ·exact hb 2 (by omega) h.symm
noncomputable def tellM(a b c step:Int) (l:List Int):List EvD:=(l.filter fun v=>decide (a=v\/b=v\/c=v)).map fun v=>(step,6,v,())
theorem tellM_app(a b c step:Int) (l m:List Int):tellM a b c step (l++m)=tellM a b c step l++tellM a b c step m:=by
 unfold tellM
 rw[List.filter_append,List.map_append]
theorem tellM_one(a b c step v:Int):tellM a b c step [v]=if a=v\/b=v\/c=v then [(step,6,v,())] else []:=by
 unfold tellM
 by_cases h:a=v\/b=v\/c=v
 ·rw[if_pos h];simp [h]
 ·rw[if_neg h];simp [h]
theorem tellM_len(a b c step:Int) (l:List Int):(tellM a b c step l).length<=l.length:=by
 unfold tellM
 rw[List.length_map]
 exact List.length_filter_le _ _
theorem tellM_mis(p:PlanD) (x:InD) (step:Int):∀ k,tellM p.2.2.2.2.2.2.2.2.2.2.2.2.2.2.1 p.2.2.2.2.2.2.2.2.2.2.2.2.2.1 p.2.2.2.2.2.2.2.2.2.2.2.2.1 step (misL x.1 k)=evG (missN p x) step 6 k
 | 0=>rfl
 | k+1=>by
  simp only[misL,evG]
  rw[tellM_app,tellM_mis p x step k]
  congr 1
  by_cases h:(nth zRd x.1 k).1=false
  ·rw[if_pos h,tellM_one]
   apply if_same
   unfold missN
   exact⟨fun k=>⟨k,h⟩,fun k=>k.1⟩
  ·rw[if_neg h,if_neg (fun k=>h k.2)]
   rfl
theorem p_missing(p:PlanD) (s:StateD) (x:InD) (step:Int) (n:Int) (ev:List EvD) (hl:x.1.length<=100) (he:ev.length<=500):engine_turn_missing (((),()),(p,s,x,step,n,ev,()),())=some ((),(p,s,x,step,n,ev++evG (missN p x) step 6 x.1.length,()),()):=by
 have hm:=misL_len x.1 x.1.length
 unfold engine_turn_missing
 dsimp only
 rw[p_mis x (by omega),bnd_mk,← tellM_mis]
 generalize misL x.1 x.1.length=r at *
 rw[grow_loop _ (fun k=>((k:Int),(p,s,x,step,n,ev++tellM p.2.2.2.2.2.2.2.2.2.2.2.2.2.2.1 p.2.2.2.2.2.2.2.2.2.2.2.2.2.1 p.2.2.2.2.2.2.2.2.2.2.2.2.1 step (r.take k),()),())) r.length ((p,s,x,step,n,ev++tellM p.2.2.2.2.2.2.2.2.2.2.2.2.2.2.1 p.2.2.2.2.2.2.2.2.2.2.2.2.2.1 p.2.2.2.2.2.2.2.2.2.2.2.2.1 step r,()),()) _ ?_ ?_ ?_]
 ·rfl
 ·simp [tellM]
 ·intro k hk
  have hle:=tellM_len p.2.2.2.2.2.2.2.2.2.2.2.2.2.2.1 p.2.2.2.2.2.2.2.2.2.2.2.2.2.1 p.2.2.2.2.2.2.2.2.2.2.2.2.1 step (r.take k)
  rw[List.length_take] at hle
  dsimp only
  rw[lt_true hk,cnd_t,ati_d 0 hk,bnd_mk,p_cont3,bnd_mk,p_tell _ _ _ _ (by dsimp only;rw[List.length_append];omega),wr_succ hk (by omega),List.take_succ_eq_append_getElem hk,tellM_app,show r[k]=nth 0 r k by simp [nth,List.getD,hk],tellM_one]
  by_cases h:p.2.2.2.2.2.2.2.2.2.2.2.2.2.2.1=nth 0 r k\/p.2.2.2.2.2.2.2.2.2.2.2.2.2.1=nth 0 r k\/p.2.2.2.2.2.2.2.2.2.2.2.2.1=nth 0 r k
  ·rw[decide_eq_true h,if_pos h]
   simp [bnd_mk,cnd_t,inlE,List.append_assoc]
  ·rw[decide_eq_false h,if_neg h]
   simp [bnd_mk,cnd_f,inlE]
 ·dsimp only
  rw[lt_false,cnd_f,List.take_length]
  rfl
structure InE (s:StateD) (x:InD):Prop where
 sb:In64 s.2.2.2.1.2.1
 cb:In64 s.2.2.2.2.1.1.2.1
 em:Rng s.2.2.2.2.2.2.1
 sm:Rng s.2.2.2.2.2.2.2.1.2.1
 kr:KRange s.2.2.2.2.2.1
 xr:∀ y∈x.1,In64 y.2.1
 xw:Rng x.2.1
theorem valR_in{x:InD} (h:∀ y∈x.1,In64 y.2.1) {a:Int} (ha:a<(x.1.length:Int)) (hs:Seen x.1 a):In64 (valR x.1 a):=by
 unfold valR
 exact h _ (nth_mem (by have:=hs.1;omega))
theorem p_keeps(p:PlanD) (st stt en:Int) (sw:WatchD) (ct:CutSD) (kp:List KpD) (em:List Int) (sm:SumD) (x:InD) (n:Int) (ev:List EvD) (v:Int) (he:ev.length<=500) (c0:0<=p.2.2.2.2.2.2.2.2.2.2.1.2.2.2.1) (hl:kp.length<=100) (hr:KRange kp) (hv:In64 v) :
  engine_turn_keeps (((),v,()),(p,(st,stt,en,sw,ct,kp,em,sm,()),x,st,n,ev,()),())=some ((),(p,(st,stt,en,sw,ct,(PutS p.2.2.2.2.2.2.2.2.2.2.1.2.2.1 p.2.2.2.2.2.2.2.2.2.2.1.2.2.2.1 kp (st,v,())).1,em,sm,()),x,st,n,ev++((if ¬ ((PutS p.2.2.2.2.2.2.2.2.2.2.1.2.2.1 p.2.2.2.2.2.2.2.2.2.2.1.2.2.2.1 kp (st,v,())).2.2.1=true/\(PutS p.2.2.2.2.2.2.2.2.2.2.1.2.2.1 p.2.2.2.2.2.2.2.2.2.2.1.2.2.2.1 kp (st,v,())).2.1.1=st) then [(st,7,st,())] else [])++(if(PutS p.2.2.2.2.2.2.2.2.2.2.1.2.2.1 p.2.2.2.2.2.2.2.2.2.2.1.2.2.2.1 kp (st,v,())).2.2.1=true/\(PutS p.2.2.2.2.2.2.2.2.2.2.1.2.2.1 p.2.2.2.2.2.2.2.2.2.2.1.2.2.2.1 kp (st,v,())).2.1.1≠st then [(st,8,(PutS p.2.2.2.2.2.2.2.2.2.2.1.2.2.1 p.2.2.2.2.2.2.2.2.2.2.1.2.2.2.1 kp (st,v,())).2.1.1,())] else [])),()),()):=by
 unfold engine_turn_keeps
 dsimp only
 rw[p_bput kp (st,v,()) p.2.2.2.2.2.2.2.2.2.2.1.2.2.2.1 p.2.2.2.2.2.2.2.2.2.2.1.2.2.1 c0 (by omega) hr hv,bnd_mk]
 generalize PutS p.2.2.2.2.2.2.2.2.2.2.1.2.2.1 p.2.2.2.2.2.2.2.2.2.2.1.2.2.2.1 kp (st,v,())=r
 obtain⟨l,⟨g,gv,_⟩,is,_⟩:=r
 dsimp only
 rw[p_tell _ _ _ _ (by dsimp only;omega),bnd_mk,p_tell _ _ _ _ (by dsimp only;rw[List.length_append,List.length_singleton];omega)]
 cases is with
 | false =>
  rw[if_pos (fun k:false=true/\g=st=>Bool.noConfusion k.1),if_neg (fun k:false=true/\g≠st=>Bool.noConfusion k.1),List.append_nil]
  rfl
 | true =>
  by_cases h:g=st
  ·rw[if_neg (fun k:¬ (true=true/\g=st)=>k ⟨rfl,h⟩),if_neg (fun k:true=true/\g≠st=>k.2 h),decide_eq_true h,List.append_nil,List.append_nil]
   rfl
  ·rw[if_pos (fun k:true=true/\g=st=>h k.2),if_pos (show true=true/\g≠st from⟨rfl,h⟩),decide_eq_false h,← List.append_assoc]
   rfl
theorem p_cuts(p:PlanD) (st stt en:Int) (sw:WatchD) (ct:CutSD) (kp:List KpD) (em:List Int) (sm:SumD) (x:InD) (n:Int) (ev:List EvD) (v:Int) (he:ev.length<=600) (hv:In64 v) (hw:In64 ct.1.2.1) (hd:In64 p.2.2.2.2.2.2.2.2.2.1.2.2.2.2.2.2.2.1) (hr:In64 ct.2.1) (hs:In64 ct.2.2.1) (hf:In64 p.2.2.2.2.2.2.2.2.2.1.2.2.2.1) :
  engine_turn_cuts (((),v,()),(p,(st,stt,en,sw,ct,kp,em,sm,()),x,st,n,ev,()),())=some ((),(p,(st,stt,en,sw,(TakeC ct v p.2.2.2.2.2.2.2.2.2.1).1,kp,em,sm,()),x,st,n,ev++(if(TakeC ct v p.2.2.2.2.2.2.2.2.2.1).2=true then [(st,9,0,())] else []),()),()):=by
 unfold engine_turn_cuts
 dsimp only
 rw[p_ptake ct v p.2.2.2.2.2.2.2.2.2.1 hv hw hd hr hs hf,bnd_mk]
 generalize TakeC ct v p.2.2.2.2.2.2.2.2.2.1=r
 obtain⟨c,is⟩:=r
 dsimp only
 rw[p_tell _ _ _ _ (by dsimp only;omega)]
 cases is with
 | true=>rw[if_pos rfl];rfl
 | false=>rw[if_neg Bool.false_ne_true,List.append_nil];rfl
theorem p_stops(p:PlanD) (st stt en:Int) (sw:WatchD) (ct:CutSD) (kp:List KpD) (em:List Int) (sm:SumD) (x:InD) (n:Int) (ev:List EvD) (v:Int) (he:ev.length<=700) (hv:In64 v) (hw:In64 sw.2.1) (hd:In64 p.2.2.2.2.2.2.2.2.1.2.2.2.2.1) (hp1:1<=p.2.2.2.2.2.2.2.2.1.2.2.2.1) :
  engine_turn_stops (((),v,()),(p,(st,stt,en,sw,ct,kp,em,sm,()),x,st,n,ev,()),())=some ((),(p,(st,if p.2.2.2.2.2.2.2.2.1.2.2.2.1<=(TakeW sw v (p.2.2.2.2.2.2.2.2.1.2.2.1,p.2.2.2.2.2.2.2.2.1.2.2.2.2.1,p.2.2.2.2.2.2.2.2.1.2.2.2.2.2.1,())).2.2.1 then 2 else stt,if p.2.2.2.2.2.2.2.2.1.2.2.2.1<=(TakeW sw v (p.2.2.2.2.2.2.2.2.1.2.2.1,p.2.2.2.2.2.2.2.2.1.2.2.2.2.1,p.2.2.2.2.2.2.2.2.1.2.2.2.2.2.1,())).2.2.1 then st else en,TakeW sw v (p.2.2.2.2.2.2.2.2.1.2.2.1,p.2.2.2.2.2.2.2.2.1.2.2.2.2.1,p.2.2.2.2.2.2.2.2.1.2.2.2.2.2.1,()),ct,kp,em,sm,()),x,st,n,ev++(if p.2.2.2.2.2.2.2.2.1.2.2.2.1<=(TakeW sw v (p.2.2.2.2.2.2.2.2.1.2.2.1,p.2.2.2.2.2.2.2.2.1.2.2.2.2.1,p.2.2.2.2.2.2.2.2.1.2.2.2.2.2.1,())).2.2.1 then [(st,10,0,())] else []),()),()):=by
 unfold engine_turn_stops
 dsimp only
 rw[p_etake sw v (p.2.2.2.2.2.2.2.2.1.2.2.1,p.2.2.2.2.2.2.2.2.1.2.2.2.2.1,p.2.2.2.2.2.2.2.2.1.2.2.2.2.2.1,()) hv hw hd,bnd_mk,p_eout,bnd_mk]
 generalize TakeW sw v (p.2.2.2.2.2.2.2.2.1.2.2.1,p.2.2.2.2.2.2.2.2.1.2.2.2.2.1,p.2.2.2.2.2.2.2.2.1.2.2.2.2.2.1,())=r
 rw[p_tell _ _ _ _ (by dsimp only;omega)]
 by_cases h:p.2.2.2.2.2.2.2.2.1.2.2.2.1<=r.2.2.1
 ·rw[decide_eq_true ⟨hp1,h⟩,if_pos h,if_pos h,if_pos h]
  rfl
 ·rw[decide_eq_false (fun k=>h k.2),if_neg h,if_neg h,if_neg h,List.append_nil]
  rfl
end Go.Proofs.YtmomjjgokeffnaaGreat.F
