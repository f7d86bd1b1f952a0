/- A checked evaluator: part 3 of what proves that a function of the program computes what is printed of it. It is sound at every world of the model. -/
import Derived.Test.YtmomjjgokeffnaaGreatVx2
import Derived.Orders
import Derived.LoopN
import Derived.Laws.Sem
import Derived.KernelRfl
import Derived.ChangeArms
import Derived.OpenShut
import Derived.Shelf.RegionOpenPlain
import Derived.WalkKit
import Derived.Lib.Walk
import Derived.Lib.SliceRun
import Derived.Lib.JoinLaws
import Derived.Lib.AppendZeros
import Derived.Lib.AppendZerosOnto
import Derived.Laws.Externs
import Derived.Laws.IdiomCopy
import Derived.Laws.NewBlocks
/- VX: maps: the operations. -/
set_option linter.unusedVariables false
set_option linter.unusedSimpArgs false
namespace Go.VX
theorem mapTy_spec{P:Program} {E:Env} (hE:EnvOk P E) {t kt vt:Nat} {K V:Ty} (h:mapTy E t=some (kt,vt,K,V)) :
  P.underlying t=some (.map kt vt)/\look E.ty kt=some K/\look E.ty vt=some V/\keyOk E kt K=true/\K.std=true/\V.std=true:=by
 unfold mapTy at h
 split at h
 ·rename_i a b hm
  split at h
  ·rename_i K' V' h1 h2
   split at h
   ·rename_i h3
    cases h
    simp only[Bool.and_eq_true] at h3
    exact⟨hE.mps _ _ _ hm,h1,h2,h3.1,h3.2.1,h3.2.2⟩
   ·cases h
  ·cases h
 ·cases h
theorem std_tup{t:Ty} (h:t.std=true):t.tup=false:=(std_ms h).2
structure KeyAt (P:Program) (kt:TypeId) (K:Ty) (d:TypeDesc):Prop where
 und:P.underlying kt=some d
 is:∀ {w:World} {O:Own} {M:Mp} {x:K.D} {h:Sh} {v:Value},RepV P K w O M x h v->MapKept.IsKey d v
 now:∀ {w w':World} {O O':Own} {M M':Mp} {x y:K.D} {h h':Sh} {v u:Value},RepV P K w O M x h v->RepV P K w' O' M' y h' u->Instr.sameNow d v u=some (eqT K x y)/\(eqT K x y=true->u=v)
theorem strOf_eq{a b:ByteArray} (h:strOf a=strOf b):a=b:=by
 rw[← byteS_strOf a,← byteS_strOf b,h]
theorem key_at{P:Program} {E:Env} {kt:Nat} {K:Ty} (h:keyOk E kt K=true) (hc:(chk P K).ty kt=true):∃ d,KeyAt P kt K d:=by
 cases K<;>first | (cases h;done) | skip
 ·rename_i k
  refine⟨.int k,chk_int hc,fun r=>?_,fun r1 r2=>?_⟩
  ·obtain⟨rfl,_⟩:=rep_int r;rfl
  ·obtain⟨rfl,_⟩:=rep_int r1
   obtain⟨rfl,_⟩:=rep_int r2
   refine⟨?_,fun e=>?_⟩
   ·simp only[Instr.sameNow,if_true,eqT]
    congr 1
   ·simp only[eqT,decide_eq_true_eq] at e
    rw[e]
 ·refine⟨.bool,chk_bool hc,fun r=>?_,fun r1 r2=>?_⟩
  ·rw[rep_bool r];trivial
  ·rw[rep_bool r1,rep_bool r2]
   refine⟨rfl,fun e=>?_⟩
   simp only[eqT,beq_iff_eq] at e
   rw[e]
 ·refine⟨.string,chk_str hc,fun r=>?_,fun r1 r2=>?_⟩
  ·obtain⟨s,rfl,_⟩:=rep_str r;trivial
  ·obtain⟨s,rfl,rfl,_⟩:=rep_str r1
   obtain⟨s',rfl,rfl,_⟩:=rep_str r2
   refine⟨?_,fun e=>?_⟩
   ·simp only[Instr.sameNow,eqT]
    congr 1
    rw[Bool.eq_iff_iff,MapKept.bytes_beq,decide_eq_true_eq]
    exact⟨fun e=>by rw[e],strOf_eq⟩
   ·simp only[eqT,decide_eq_true_eq] at e
    rw[strOf_eq e]
def MpE(P:Program) (K V:Ty) (w:World) (O:Own) (M:Mp) (es:Array MapEntry) (l:List (K.D×V.D)):Prop :=
 es.size=l.length/\∀ (i:Nat) kv,l[i]?=some kv->∃ e,es[i]?=some e/\e.born=i/\RepV P K w O M kv.1 .o e.key/\RepV P V w O M kv.2 .o e.val
theorem MpE.mono{P:Program} {K V:Ty} {w w':World} {O:Own} {M:Mp} {es:Array MapEntry} {l:List (K.D×V.D)} (h:MpE P K V w O M es l) (hx:Ext O w w'):MpE P K V w' O M es l :=
 ⟨h.1,fun i kv hi=>by
  obtain⟨e,h1,h2,h3,h4⟩:=h.2 i kv hi
  exact⟨e,h1,h2,h3.mono P hx (fun _ _ _ h=>h) trivial,h4.mono P hx (fun _ _ _ h=>h) trivial⟩⟩
theorem MpE.push{P:Program} {K V:Ty} {w:World} {O:Own} {M:Mp} {es:Array MapEntry} {l:List (K.D×V.D)} (h:MpE P K V w O M es l) {k:K.D} {v:V.D} {kv vv:Value} (hk:RepV P K w O M k .o kv) (hv:RepV P V w O M v .o vv) :
  MpE P K V w O M (es.push { key:=kv,val:=vv,born:=l.length }) (l++[(k,v)]):=by
 refine⟨by simp [h.1],fun i y hi=>?_⟩
 rw[List.getElem?_append] at hi
 split at hi
 ·rename_i hlt
  obtain⟨e,h1,h2⟩:=h.2 i y hi
  refine⟨e,?_,h2⟩
  rw[Array.getElem?_push,if_neg (by rw[h.1];omega)]
  exact h1
 ·rename_i hge
  have hil:i=l.length:=by
   have:=(List.getElem?_eq_some_iff.1 hi).1
   simp at this
   omega
  subst hil
  rw[Nat.sub_self] at hi
  simp only[List.getElem?_cons_zero,Option.some.injEq] at hi
  subst hi
  exact⟨_,by rw[Array.getElem?_push,if_pos (by rw[h.1])],rfl,hk,hv⟩
theorem MpE.set{P:Program} {K V:Ty} {w:World} {O:Own} {M:Mp} {es:Array MapEntry} {l:List (K.D×V.D)} (h:MpE P K V w O M es l) {i:Nat} (hi:i<l.length) {y:K.D×V.D} {f:MapEntry->MapEntry}
  (hf:∀ e,es[i]?=some e->(f e).born=e.born/\RepV P K w O M y.1 .o (f e).key/\RepV P V w O M y.2 .o (f e).val):MpE P K V w O M (es.modify i f) (l.set i y):=by
 refine⟨by simp [h.1],fun j z hj=>?_⟩
 rw[List.getElem?_set] at hj
 rw[Array.getElem?_modify]
 split at hj
 ·rename_i e
  subst e
  cases hj
  obtain⟨e,h1,h2,_⟩:=h.2 i l[i] (List.getElem?_eq_getElem hi)
  obtain⟨g1,g2,g3⟩:=hf e h1
  exact⟨f e,by rw[h1];simp,g1.trans h2,g2,g3⟩
 ·rename_i hne
  obtain⟨e,h1,h2⟩:=h.2 j z hj
  exact⟨e,by rw[if_neg (fun h=>hne (by omega))];exact h1,h2⟩
theorem mpAt_le{κ α:Type} (eq:κ->κ->Bool):∀ (l:List (κ×α)) (k:κ),mpAt eq l k<=l.length
 | [],_=>Nat.le_refl _
 | (k',_)::r,k=>by
  simp only[mpAt]
  split
  ·exact Nat.zero_le _
  ·exact Nat.succ_le_succ (mpAt_le eq r k)
theorem find_ok{P:Program} {K V:Ty} {w:World} {O:Own} {M:Mp} {kt:TypeId} {d:TypeDesc} (hK:KeyAt P kt K d) {x:K.D} {kv:Value} (hx:RepV P K w O M x .o kv) :
  ∀ (es:List MapEntry) (l:List (K.D×V.D)) (i:Nat),es.length=l.length->(∀ (j:Nat) y,l[j]?=some y->∃ e,es[j]?=some e/\RepV P K w O M y.1 .o e.key) ->
   (mpAt (eqT K) l x=l.length/\Instr.findNow d kv es i=some none) \/
   (mpAt (eqT K) l x<l.length/\∃ e,es[mpAt (eqT K) l x]?=some e/\e.key=kv/\Instr.findNow d kv es i=some (some (i+mpAt (eqT K) l x,e.val)))
 | [],[],i,_,_=>.inl ⟨rfl,rfl⟩
 | [],_::_,_,h,_=>by simp at h
 | _::_,[],_,h,_=>by simp at h
 | e::es,(y,v)::l,i,h,he=>by
  obtain⟨e',h1,h2⟩:=he 0 (y,v) rfl
  cases h1
  obtain⟨n1,n2⟩:=hK.now hx h2
  simp only[mpAt]
  cases hq:eqT K x y with
  | true =>
   right
   refine⟨by simp,e,rfl,n2 hq,?_⟩
   simp only[Instr.findNow]
   rw[show Instr.sameNow d kv e.key=some (eqT K x y) from n1,hq]
   rfl
  | false =>
   have hnow:Instr.findNow d kv (e::es) i=Instr.findNow d kv es (i+1):=by
    simp only[Instr.findNow]
    rw[show Instr.sameNow d kv e.key=some (eqT K x y) from n1,hq]
   rcases find_ok hK hx es l (i+1) (by simpa using h) (fun j z hz=>by obtain⟨e2,g1,g2⟩:=he (j+1) z (by simpa using hz);exact⟨e2,by simpa using g1,g2⟩) with⟨k1,k2⟩ | ⟨k1,e2,k2,k3,k4⟩
   ·left
    exact⟨by dsimp only;rw[k1];rfl,by rw[hnow];exact k2⟩
   ·right
    refine⟨by dsimp only;simp only[List.length_cons];omega,e2,by dsimp only;simpa using k2,k3,?_⟩
    rw[hnow,k4]
    dsimp only
    congr 3
    omega
theorem goes_evMap{P:Program} {E:Env} (hE:EnvOk P E) {w0:World} {I:Own} {nt:Nat} {U:Nat->Prop} {M:Mp} {st:St} {a:Act} {w:World} (h:Rel P w0 I nt U M st a w) {ω:Bool} {t:Nat} {x:Operand}
  {k:Nat->Nat->(K V:Ty)->Nat->List (K.D×V.D)->RM} {p:Patch} {f:List Loc} (g:Goes st ω (evMap E t x k) p f) :
  ∃ (kt vt:Nat) (K V:Ty) (b:Nat) (l:List (K.D×V.D)) (sc:Sh) (es:Array MapEntry) (f':List Loc),mapTy E t=some (kt,vt,K,V)/\a.eval x=.map (some (M.box b).1)/\look st.bx b=some (.rw ⟨.tu (.ms (.tu K V)) .unit,(l,()),sc⟩) /\
   w.heap[(M.box b).1]?=some (.map es l.length)/\MpE P K V w (own st M) M es l/\Goes st ω (k kt vt K V b l) p f':=by
 unfold evMap at g
 split at g
 ·rename_i kt vt K V hm
  obtain⟨u,f1,hu,g,_⟩:=goes_opd g
  obtain⟨ru,su⟩:=opd_rep hE h hu
  split at g
  ·rename_i b
   obtain⟨c,f2,hc,g,_⟩:=goes_rdW g
   split at g
   ·rename_i l hl
    have hcv:=castTo_vl hl
    generalize c.sh=sc at hcv
    subst hcv
    obtain⟨l,_⟩:=l
    obtain⟨pm,e1,e2⟩:=rep_mh ru
    dsimp only[MapSh] at e2
    subst e2
    have hb:ObOk P w (own st M) M b (.tu (.ms (.tu K V)) .unit) (l,()):=(h.bx _ _ hc).1
    obtain⟨_,_,es,h1,h2,h3⟩:=hb
    exact⟨kt,vt,K,V,b,l,sc,es,f2,hm,e1,hc,h1,⟨h2,h3⟩,g⟩
   ·cases g
  ·cases g
 ·cases g
theorem goes_evKey{P:Program} {E:Env} (hE:EnvOk P E) {w0:World} {I:Own} {nt:Nat} {U:Nat->Prop} {M:Mp} {st:St} {a:Act} {w:World} (h:Rel P w0 I nt U M st a w) {ω:Bool} {kt:Nat} {K:Ty} {i:Operand}
  {k:K.D->RM} {p:Patch} {f:List Loc} (g:Goes st ω (evKey E kt K i k) p f):∃ (y:K.D) (f':List Loc),RepV P K w (own st M) M y .o (a.eval i)/\Goes st ω (k y) p f':=by
 unfold evKey at g
 obtain⟨u,f1,hu,g,_⟩:=goes_opd g
 obtain⟨ru,su⟩:=opd_rep hE h hu
 split at g
 ·rename_i x hx
  obtain⟨hp,hx⟩:=castV_eq hx
  have hcv:=castTo_vl hx
  generalize u.sh=su at hcv hp
  subst hcv
  exact⟨x,f1,noM_forget ru hp M,g⟩
 ·cases g
theorem zero_repV{P:Program} {t:Ty} {i:TypeId} (hi:infoB P t i=true) (w:World) (O:Own) (M:Mp):RepV P t w O M t.zero .o (valOf t.agg (zc t)):=by
 have hm:=(infoB_spec hi).1
 exact noM_forget (rep_val (zero_rep P t hm w O M) (memTup hm).1) (zsh_plain t) M
theorem mpVal_rep{P:Program} {K V:Ty} {w:World} {O:Own} {M:Mp} {es:Array MapEntry} {l:List (K.D×V.D)} (h:MpE P K V w O M es l) {i:Nat} {e:MapEntry} (hi:i<l.length) (he:es[i]?=some e) (z:V.D):RepV P V w O M (mpVal l i z) .o e.val:=by
 obtain⟨e',h1,_,_,h2⟩:=h.2 i l[i] (List.getElem?_eq_getElem hi)
 rw[he] at h1
 cases h1
 unfold mpVal
 rw[List.getElem?_eq_getElem hi]
 exact h2
theorem mpVal_out{κ α:Type} {l:List (κ×α)} {i:Nat} {z:α} (hi:i=l.length):mpVal l i z=z:=by
 unfold mpVal
 rw[hi,List.getElem?_eq_none (Nat.le_refl _)]
theorem blt_t{a b:Nat} (h:a<b):Nat.blt a b=true:=Nat.ble_eq_true_of_le h
theorem blt_f{a b:Nat} (h:b<=a):Nat.blt a b=false:=by
 cases hb:Nat.blt a b
 ·rfl
 ·have:=Nat.le_of_ble_eq_true hb
  omega
theorem ok_lookup{P:Program} {E:Env} (hE:EnvOk P E) {o:Oper} {m:Bool} {t:TypeId} {x i:Operand} {ok:Bool} (ho:o.op=.lookup t x i ok):OpOk P E o m:=by
 intro w0 I nt U M st a w id h hd
 refine⟨false,fun ω _ p f hg hfr=>?_⟩
 simp only[evOp,ho] at hg
 obtain⟨kt,vt,K,V,b,l,sc,es,f1,hm,e1,hc,h1,h2,hg⟩:=goes_evMap hE h hg
 obtain⟨y,f2,ry,hg⟩:=goes_evKey hE h hg
 obtain⟨m1,m2,m3,m4,m5,m6⟩:=mapTy_spec hE hm
 obtain⟨d,hK⟩:=key_at m4 (hE.ty _ _ m2)
 have hi:=chk_info (hE.ty _ _ m3) m6
 have hfind:=find_ok (V:=V) hK ry es.toList l 0 (by simpa using h2.1) (fun j z hz=>by
  obtain⟨e,g1,g2,g3,g4⟩:=h2.2 j z hz
  exact⟨e,by simpa using g1,g3⟩)
 obtain⟨vv,hrun,hrep⟩:∃ vv:Value,(Instr.lookup t (.map (some (M.box b).1)) (a.eval i) ok).run P w=.ok (if ok then .tuple #[vv,.bool (Nat.blt (mpAt (eqT K) l y) l.length)] else vv) w/\RepV P V w (own st M) M (mpVal l (mpAt (eqT K) l y) V.zero) .o vv:=by
  rcases hfind with⟨k1,k2⟩ | ⟨k1,e,k2,k3,k4⟩
  ·refine⟨valOf V.agg (zc V),?_,by rw[mpVal_out k1];exact zero_repV hi w _ _⟩
   have hb:Nat.blt (mpAt (eqT K) l y) l.length=false:=blt_f (by omega)
   cases ok<;>simp [Instr.lookup,run_underlying m1,run_getMap h1,MapKept.run_checkKey hK.und (hK.is ry),MapKept.run_findKey hK.und k2,run_zero hi,Result.andThen,hb]
  ·refine⟨e.val,?_,mpVal_rep h2 k1 (by simpa using k2) _⟩
   have hb:Nat.blt (mpAt (eqT K) l y) l.length=true:=blt_t k1
   cases ok<;>simp [Instr.lookup,run_underlying m1,run_getMap h1,MapKept.run_checkKey hK.und (hK.is ry),MapKept.run_findKey hK.und k4,Result.andThen,hb]
 have hexec:(execOp a.eval o).run P w=.ok (.value (if ok then .tuple #[vv,.bool (Nat.blt (mpAt (eqT K) l y) l.length)] else vv)) w:=by
  simp only[execOp,ho,e1,Sem.run_bind,hrun,Result.andThen_ok,Sem.run_pure]
 split at hg
 ·have hp:=goes_retV hg
  subst hp
  refine op_ret h hd hexec ?_ trivial
  refine⟨[vv,.bool (Nat.blt (mpAt (eqT K) l y) l.length)],rfl,_,_,rfl,std_tup m6,(repV_of (std_tup m6)).1 hrep,_,_,rfl,rfl,rfl,rfl⟩
 ·have hp:=goes_retV hg
  subst hp
  exact op_ret h hd hexec hrep trivial
theorem run_setMap{P:Program} {w:World} {r:Nat} {es:Array MapEntry} {clock:Nat} (Y:Obj) (hb:w.heap[r]?=some (.map es clock)):(setObj r Y).run P w=.ok () { w with heap:=w.heap.setIfInBounds r Y }:=by
 simp [setObj,Sem.run,hb]
theorem Rel.setMap{P:Program} {w0:World} {I:Own} {nt:Nat} {U U':Nat->Prop} {M:Mp} {st:St} {a:Act} {w:World} (h:Rel P w0 I nt U M st a w) {dst:Option Tmp}
  (hd:∀ d,dst=some d->d<nt) {b:Nat} {K V:Ty} {l l':List (K.D×V.D)} {sc:Sh} (hK:K.tup=false) (hV:V.tup=false) (hc:look st.bx b=some (.rw ⟨.tu (.ms (.tu K V)) .unit,(l,()),sc⟩)) {es es':Array MapEntry} {n n':Nat}
  (h1:w.heap[(M.box b).1]?=some (.map es n)) (hn:n'=l'.length) (hes:MpE P K V w (own st M) M es' l') {pv:Option Vl} {v:Value}
  (hr:∀ w',Ext (own st M) w w'->∀ x,pv=some x->RepV P x.ty w' (own st M) M x.val x.sh v/\ShIn U' x.sh) (hU:∀ k,U k->U' k) {fr:Nat} :
  Rel P w0 I nt U' M (st.patch dst { v:=pv,bs:=mpBox b K V l',fr:=fr }) (a.put dst v) { w with heap:=w.heap.setIfInBounds (M.box b).1 (.map es' n') }:=by
 refine h.setOb (c':=⟨.tu (.ms (.tu K V)) .unit,(l',()),.o⟩) (Y:=.map es' n') (pv:=pv) hd hc rfl (fun _ _ h=>h) h1 (fun _ _ _ e=>by cases e) (fun _ _ _ e=>by cases e) (fun hx hs=>?_) rfl (fun hx=>hr _ hx) hU
 subst hn
 have:=hes.mono hx
 exact⟨hK,hV,es',hs,this.1,this.2⟩
theorem mpPut_in{κ α:Type} {l:List (κ×α)} {i:Nat} (hi:i<l.length) (k:κ) (v:α):mpPut l i k v=l.set i (k,v):=by
 unfold mpPut;rw[blt_t hi]
theorem mpPut_out{κ α:Type} {l:List (κ×α)} {i:Nat} (hi:i=l.length) (k:κ) (v:α):mpPut l i k v=l++[(k,v)]:=by
 unfold mpPut;rw[blt_f (by omega)]
theorem mpIns_in{κ α:Type} {l:List (κ×α)} {i:Nat} (hi:i<l.length) (k:κ) (v:α):mpIns l i k v=l:=by
 unfold mpIns;rw[blt_t hi]
theorem mpIns_out{κ α:Type} {l:List (κ×α)} {i:Nat} (hi:i=l.length) (k:κ) (v:α):mpIns l i k v=l++[(k,v)]:=by
 unfold mpIns;rw[blt_f (by omega)]
theorem ok_mapUpdate{P:Program} {E:Env} (hE:EnvOk P E) {o:Oper} {m:Bool} {t:TypeId} {x i y:Operand} (ho:o.op=.mapUpdate t x i y\/o.op=.insert t x i y):OpOk P E o m:=by
 intro w0 I nt U M st a w id h hd
 refine⟨false,fun ω _ p f hg hfr=>?_⟩
 have hg:Goes st ω (evMap E t x fun kt vt K V b l=>evKey E kt K i fun k=>evKey E vt V y fun v=>.ret { v:=none,bs:=mpBox b K V (mpPut l (mpAt (eqT K) l k) k v) }) p f:=by
  rcases ho with ho | ho<;>(simp only[evOp,ho] at hg;exact hg)
 obtain⟨kt,vt,K,V,b,l,sc,es,f1,hm,e1,hc,h1,h2,hg⟩:=goes_evMap hE h hg
 obtain⟨k,f2,rk,hg⟩:=goes_evKey hE h hg
 obtain⟨v,f3,rv,hg⟩:=goes_evKey hE h hg
 cases hg
 obtain⟨m1,m2,m3,m4,m5,m6⟩:=mapTy_spec hE hm
 obtain⟨d,hK⟩:=key_at m4 (hE.ty _ _ m2)
 have hfind:=find_ok (V:=V) hK rk es.toList l 0 (by simpa using h2.1) (fun j z hz=>by
  obtain⟨e,g1,g2,g3,g4⟩:=h2.2 j z hz
  exact⟨e,by simpa using g1,g3⟩)
 have hexec:∀ w',(Instr.mapUpdate t (.map (some (M.box b).1)) (a.eval i) (a.eval y)).run P w=.ok () w'->(execOp a.eval o).run P w=.ok .skip w':=fun w' hr=>by
  rcases ho with ho | ho<;>simp only[execOp,ho,e1,Sem.run_bind,hr,Result.andThen_ok,Sem.run_pure]
 rcases hfind with⟨k1,k2⟩ | ⟨k1,e,k2,k3,k4⟩
 ·refine StepOk.skip (hexec { w with heap:=w.heap.setIfInBounds (M.box b).1 (.map (es.push { key:=a.eval i,val:=a.eval y,born:=l.length }) (l.length+1)) } ?_) ⟨M,Agree.refl _ _,?_⟩
  ·simp [Instr.mapUpdate,run_underlying m1,run_getMap h1,MapKept.run_checkKey hK.und (hK.is rk),MapKept.run_findKey hK.und k2,run_setMap _ h1,Result.andThen]
  ·rw[mpPut_out k1]
   exact h.setMap hd (std_tup m5) (std_tup m6) hc h1 (by simp) (h2.push rk rv) (fun _ _ x hx=>by cases hx) (fun k hk=>.inl hk)
 ·have hj:es[mpAt (eqT K) l k]?=some e:=by simpa using k2
  refine StepOk.skip (hexec { w with heap:=w.heap.setIfInBounds (M.box b).1 (.map (es.modify (mpAt (eqT K) l k) fun e=>{ e with key:=a.eval i,val:=a.eval y }) l.length) } ?_) ⟨M,Agree.refl _ _,?_⟩
  ·simp [Instr.mapUpdate,run_underlying m1,run_getMap h1,MapKept.run_checkKey hK.und (hK.is rk),MapKept.run_findKey hK.und k4,hj,k3,MapKept.run_keyThatStays (hK.is rk),run_setMap _ h1,Result.andThen]
  ·rw[mpPut_in k1]
   have hset:=h2.set k1 (y:=(k,v)) (f:=fun e=>{ e with key:=a.eval i,val:=a.eval y }) fun e he=>⟨rfl,rk,rv⟩
   exact h.setMap (pv:=none) (U':=fun j=>U j\/(id<=j/\j<id+1)) hd (std_tup m5) (std_tup m6) hc h1 (by simp) hset (fun _ _ x hx=>by cases hx) (fun k hk=>.inl hk)
theorem ok_mapEntry{P:Program} {E:Env} (hE:EnvOk P E) {o:Oper} {m:Bool} {t:TypeId} {x i:Operand} (ho:o.op=.mapEntry t x i):OpOk P E o m:=by
 intro w0 I nt U M st a w id h hd
 refine⟨false,fun ω _ p f hg hfr=>?_⟩
 simp only[evOp,ho] at hg
 obtain⟨kt,vt,K,V,b,l,sc,es,f1,hm,e1,hc,h1,h2,hg⟩:=goes_evMap hE h hg
 obtain⟨k,f2,rk,hg⟩:=goes_evKey hE h hg
 obtain⟨n,hn,hg⟩:=goes_eff hg
 cases hg
 obtain⟨hn1,hn2⟩:=natI_some hn
 subst hn1
 obtain⟨m1,m2,m3,m4,m5,m6⟩:=mapTy_spec hE hm
 obtain⟨d,hK⟩:=key_at m4 (hE.ty _ _ m2)
 have hi:=chk_info (hE.ty _ _ m3) m6
 have hfind:=find_ok (V:=V) hK rk es.toList l 0 (by simpa using h2.1) (fun j z hz=>by
  obtain⟨e,g1,g2,g3,g4⟩:=h2.2 j z hz
  exact⟨e,by simpa using g1,g3⟩)
 have hexec:∀ v w',(Instr.mapEntry t (.map (some (M.box b).1)) (a.eval i)).run P w=.ok v w'->(execOp a.eval o).run P w=.ok (.value v) w':=fun v w' hr=>by
  simp only[execOp,ho,e1,Sem.run_bind,hr,Result.andThen_ok,Sem.run_pure]
 have himin:IntKind.i64.min=-9223372036854775808:=by decide
 have himax:IntKind.i64.max=9223372036854775807:=by decide
 have hrep:∀ (w':World) (vv:Value),RepV P V w' (own st M) M (mpVal l (mpAt (eqT K) l k) V.zero) .o vv->∀ q:Vl,some (⟨.tu V (.tu (.int .i64) .unit),(mpVal l (mpAt (eqT K) l k) V.zero,((mpAt (eqT K) l k:Int),())),.o⟩:Vl)=some q ->
   RepV P q.ty w' (own st M) M q.val q.sh (.tuple #[vv,goInt (mpAt (eqT K) l k)])/\ShIn (fun k=>U k\/(id<=k/\k<id+1)) q.sh:=fun w' vv hv q hq=>by
  cases hq
  refine⟨⟨[vv,goInt (mpAt (eqT K) l k)],rfl,_,_,rfl,std_tup m6,(repV_of (std_tup m6)).1 hv,_,_,rfl,rfl,⟨rfl,?_,?_⟩,rfl⟩,trivial⟩
  ·rw[himin];exact Int.le_trans (by decide) (Int.natCast_nonneg _)
  ·rw[himax];exact Int.ofNat_le.2 hn2
 rcases hfind with⟨k1,k2⟩ | ⟨k1,e,k2,k3,k4⟩
 ·refine StepOk.value (hexec (.tuple #[valOf V.agg (zc V),goInt (mpAt (eqT K) l k)]) { w with heap:=w.heap.setIfInBounds (M.box b).1 (.map (es.push { key:=a.eval i,val:=valOf V.agg (zc V),born:=l.length }) (l.length+1)) } ?_) ⟨M,Agree.refl _ _,?_⟩
  ·simp [Instr.mapEntry,run_underlying m1,run_getMap h1,MapKept.run_checkKey hK.und (hK.is rk),MapKept.run_findKey hK.und k2,run_zero hi,run_setMap _ h1,Result.andThen,k1]
  ·rw[mpIns_out k1]
   exact h.setMap hd (std_tup m5) (std_tup m6) hc h1 (by simp) (h2.push rk (zero_repV hi _ _ _)) (fun w' _=>hrep w' _ (by rw[mpVal_out k1];exact zero_repV hi _ _ _)) (fun k hk=>.inl hk)
 ·have hj:es[mpAt (eqT K) l k]?=some e:=by simpa using k2
  have hborn:e.born=mpAt (eqT K) l k:=by
   obtain⟨e',g1,g2,_⟩:=h2.2 _ _ (List.getElem?_eq_getElem k1)
   rw[hj] at g1
   cases g1
   exact g2
  refine StepOk.value (hexec (.tuple #[e.val,goInt (mpAt (eqT K) l k)]) { w with heap:=w.heap.setIfInBounds (M.box b).1 (.map (es.modify (mpAt (eqT K) l k) fun e=>{ e with key:=a.eval i }) l.length) } ?_) ⟨M,Agree.refl _ _,?_⟩
  ·simp [Instr.mapEntry,run_underlying m1,run_getMap h1,MapKept.run_checkKey hK.und (hK.is rk),MapKept.run_findKey hK.und k4,hj,k3,MapKept.run_keyThatStays (hK.is rk),run_setMap _ h1,Result.andThen,hborn]
  ·rw[mpIns_in k1]
   have hset:l.set (mpAt (eqT K) l k) l[mpAt (eqT K) l k]=l:=List.set_getElem_self k1
   refine h.setMap hd (std_tup m5) (std_tup m6) hc h1 rfl ?_ (fun w' hx=>hrep w' _ ((mpVal_rep h2 k1 hj _).mono P hx (fun _ _ _ h=>h) trivial)) (fun k hk=>.inl hk)
   have:=h2.set k1 (y:=l[mpAt (eqT K) l k]) (f:=fun e=>{ e with key:=a.eval i }) fun e' he=>by
    rw[hj] at he
    cases he
    obtain⟨e',g1,_,g3,g4⟩:=h2.2 _ _ (List.getElem?_eq_getElem k1)
    rw[hj] at g1
    cases g1
    rw[k3] at g3
    exact⟨rfl,g3,g4⟩
   rwa [hset] at this
theorem ok_makeMap{P:Program} {E:Env} (hE:EnvOk P E) {o:Oper} {m:Bool} {t:TypeId} {r:Option Operand} (ho:o.op=.makeMap t r):OpOk P E o m:=by
 intro w0 I nt U M st a w id h hd
 refine⟨false,fun ω _ p f hg hfr=>?_⟩
 simp only[evOp,ho] at hg
 split at hg
 ·split at hg
  ·rename_i kt vt K V hm
   cases hg
   obtain⟨m1,m2,m3,m4,m5,m6⟩:=mapTy_spec hE hm
   have hid:¬ U id:=hfr id (Nat.le_refl _) (by show id<id+1;omega)
   refine StepOk.value (v:=.map (some w.heap.size)) (w':=w.alloc (.map #[] 0)) ?_
    ⟨_,Mp.setBox_agree hid,h.newOb (ta:=.ms (.tu K V)) (tb:=.unit) (x:=([],())) (X:=.map #[] 0) (id:=id) (hv:=⟨.mh,(),.box id [] 0⟩) hd (fun O M' hb=>⟨std_tup m5,std_tup m6,#[],by rw[hb];exact(MapKept.heap_alloc w _).1,rfl,fun i kv hi=>by simp at hi⟩) (fun O M' hb=>?_)
     (.inr ⟨Nat.le_refl _,by show id<id+1;omega⟩) hid (fun k hk=>.inl hk) (.inr ⟨Nat.le_refl _,by show id<id+1;omega⟩)⟩
   ·simp only[execOp,ho,Option.map_none,Instr.makeMap,Sem.run_bind,Sem.run_pure,Result.andThen_ok,run_newObj]
    rfl
   ·refine⟨_,rfl,?_⟩
    show _=some _
    rw[hb]
  ·cases hg
 ·cases hg
end Go.VX
/- VX: maps: an entry's value is put; an entry is struck. -/
set_option linter.unusedVariables false
set_option linter.unusedSimpArgs false
namespace Go.VX
theorem find_born{es:Array MapEntry} {n:Nat} (hb:∀ (i:Nat) (e:MapEntry),es[i]?=some e->e.born=i) (hn:n<es.size):es.findIdx? (fun e=>(e.born:Int)==(n:Int))=some n:=by
 rw[Array.findIdx?_eq_some_iff_getElem]
 refine⟨hn,?_,fun j hj=>?_⟩
 ·rw[hb n _ (Array.getElem?_eq_getElem hn)];simp
 ·rw[hb j _ (Array.getElem?_eq_getElem (by omega))]
  simp
  omega
theorem ok_entryStore{P:Program} {E:Env} (hE:EnvOk P E) {o:Oper} {m:Bool} {t:TypeId} {x s y:Operand} (ho:o.op=.entryStore t x s y):OpOk P E o m:=by
 intro w0 I nt U M st a w id h hd
 refine⟨false,fun ω _ p f hg hfr=>?_⟩
 simp only[evOp,ho] at hg
 obtain⟨kt,vt,K,V,b,l,sc,es,f1,hm,e1,hc,h1,h2,hg⟩:=goes_evMap hE h hg
 obtain⟨u,f2,hu,hg,_⟩:=goes_opd hg
 obtain⟨ru,su⟩:=opd_rep hE h hu
 split at hg
 ·rename_i ik n sh
  obtain⟨e2,_⟩:=rep_int ru
  obtain⟨v,f3,rv,hg⟩:=goes_evKey hE h hg
  obtain⟨q,hq,hg⟩:=goes_eff hg
  cases hg
  obtain⟨a0,a1,a2⟩:=ati_some hq
  change Int at n
  obtain⟨n,rfl⟩:∃ j:Nat,n=j:=⟨n.toNat,by omega⟩
  rw[Int.toNat_natCast] at a1
  have hlt:n<l.length:=by omega
  obtain⟨m1,m2,m3,m4,m5,m6⟩:=mapTy_spec hE hm
  have hborn:∀ (i:Nat) (e:MapEntry),es[i]?=some e->e.born=i:=fun i e he=>by
   have hi:i<l.length:=by rw[← h2.1];exact(Array.getElem?_eq_some_iff.1 he).1
   obtain⟨e',g1,g2,_⟩:=h2.2 i _ (List.getElem?_eq_getElem hi)
   rw[he] at g1
   cases g1
   exact g2
  have hfi:=find_born hborn (by rw[h2.1];exact hlt:n<es.size)
  refine StepOk.skip (w':={ w with heap:=w.heap.setIfInBounds (M.box b).1 (.map (es.modify n fun e=>{ e with val:=a.eval y }) l.length) }) ?_ ⟨M,Agree.refl _ _,?_⟩
  ·have hrun:(Instr.entryStore t (.map (some (M.box b).1)) (.int ik (n:Int)) (a.eval y)).run P w=.ok () { w with heap:=w.heap.setIfInBounds (M.box b).1 (.map (es.modify n fun e=>{ e with val:=a.eval y }) l.length) }:=by
    simp [Instr.entryStore,run_getMap h1,asInt,asIntOf,hfi,run_setMap _ h1,Result.andThen]
   simp only[execOp,ho,e1,e2,Sem.run_bind,hrun,Result.andThen_ok,Sem.run_pure]
  ·have hset:=h2.set hlt (y:=(q.1,v)) (f:=fun e=>{ e with val:=a.eval y }) fun e he=>by
    obtain⟨e',g1,_,g3,_⟩:=h2.2 n q a1
    rw[he] at g1
    cases g1
    exact⟨rfl,g3,rv⟩
   exact h.setMap (pv:=none) (U':=fun j=>U j\/(id<=j/\j<id+1)) hd (std_tup m5) (std_tup m6) hc h1 (by simp) hset (fun _ _ x hx=>by cases hx) (fun k hk=>.inl hk)
 ·cases hg
theorem ok_delete{P:Program} {E:Env} (hE:EnvOk P E) {o:Oper} {m:Bool} {c:Call} (ho:o.op=.call c) (hc:c.callee=.builtin .delete):OpOk P E o m:=by
 intro w0 I nt U M st a w id h hd
 refine⟨false,fun ω _ p f hg hfr=>?_⟩
 simp only[evOp,ho,hc,evBuiltin] at hg
 split at hg
 ·rename_i x i t ts hargs htys
  obtain⟨kt,vt,K,V,b,l,sc,es,f1,hm,e1,hcb,h1,h2,hg⟩:=goes_evMap hE h hg
  obtain⟨k,f2,rk,hg⟩:=goes_evKey hE h hg
  cases hg
  obtain⟨m1,m2,m3,m4,m5,m6⟩:=mapTy_spec hE hm
  obtain⟨d,hK⟩:=key_at m4 (hE.ty _ _ m2)
  have hargs':c.args.map a.eval=#[.map (some (M.box b).1),a.eval i]:=by
   have:c.args=#[x,i]:=Array.toList_inj.1 hargs
   rw[this,← e1];simp
  have ht:c.argTypes[0]?=some t:=by
   have:c.argTypes=(t::ts).toArray:=Array.toList_inj.1 (by rw[htys])
   rw[this];rfl
  have hfind:=find_ok (V:=V) hK rk es.toList l 0 (by simpa using h2.1) (fun j z hz=>by
   obtain⟨e,g1,g2,g3,g4⟩:=h2.2 j z hz
   exact⟨e,by simpa using g1,g3⟩)
  have fin:∀ (es':Array MapEntry),es'.size=(match Nat.blt (mpAt (eqT K) l k) l.length with | true=>l.length-1 | false=>l.length:Nat) ->
    (Builtin.delete_ c.argTypes o.type (c.args.map a.eval)).run P w=.ok (.tuple #[]) { w with heap:=w.heap.setIfInBounds (M.box b).1 (.map es' l.length) } ->
    StepOk P o a w fun v w'=>∃ M',Agree U M M'/\Rel P w0 I nt (fun k=>U k\/(id<=k/\k<id+1)) M' (st.patch o.dst { v:=none,bs:=[(b,.rw ⟨.tu .unit (.int .i64),((),((match Nat.blt (mpAt (eqT K) l k) l.length with | true=>l.length-1 | false=>l.length:Nat):Int)),.o⟩)] }) (a.put o.dst v) w':=fun es' hsz hr=>by
   refine StepOk.value (v:=.tuple #[]) (w':={ w with heap:=w.heap.setIfInBounds (M.box b).1 (.map es' l.length) }) (exec_builtin ho hc fun _=>by simp only[builtin,Sem.run_bind,hr,Result.andThen_ok,Sem.run_pure]) ⟨M,Agree.refl _ _,?_⟩
   exact h.setOb (c':=⟨.tu .unit (.int .i64),((),((match Nat.blt (mpAt (eqT K) l k) l.length with | true=>l.length-1 | false=>l.length:Nat):Int)),.o⟩) (Y:=.map es' l.length) (pv:=none) hd hcb rfl (fun _ _ h=>h) h1 (fun _ _ _ e=>by cases e) (fun _ _ _ e=>by cases e) (fun hx hs=>⟨es',_,hs,by rw[hsz]⟩) rfl (fun _ y hy=>by cases hy) (fun k hk=>.inl hk)
  rcases hfind with⟨k1,k2⟩ | ⟨k1,e,k2,k3,k4⟩
  ·refine fin es (by rw[blt_f (by omega)];exact h2.1) ?_
   rw[hargs']
   simp [Builtin.delete_,ht,run_underlying m1,run_getMap h1,MapKept.run_checkKey hK.und (hK.is rk),MapKept.run_findKey hK.und k2,run_setMap _ h1,Result.andThen]
  ·refine fin (es.eraseIdxIfInBounds (mpAt (eqT K) l k)) ?_ ?_
   ·rw[blt_t k1]
    unfold Array.eraseIdxIfInBounds
    rw[dif_pos (by rw[h2.1];exact k1)]
    simp [h2.1]
   ·rw[hargs']
    simp [Builtin.delete_,ht,run_underlying m1,run_getMap h1,MapKept.run_checkKey hK.und (hK.is rk),MapKept.run_findKey hK.und k4,run_setMap _ h1,Result.andThen]
 ·cases hg
end Go.VX
/- VX: a part of a slice of one's own is made zero. -/
set_option linter.unusedVariables false
set_option linter.unusedSimpArgs false
namespace Go.VX
theorem zeroCells_int(k:IntKind) (n:Nat):(Builtin.zeroCells #[.int k 0] n).toList=List.replicate n (.int k 0):=by
 rw[List.eq_replicate_iff]
 refine⟨by simp [Builtin.zeroCells],fun b hb=>?_⟩
 simp only[Builtin.zeroCells,Array.toList_map,List.mem_map] at hb
 obtain⟨i,_,rfl⟩:=hb
 simp [Nat.mod_one]
theorem clr_some{α:Type} {l r:List α} {lo hi:Int} {z:α} (h:clr l lo hi z=some r) :
  0<=lo/\lo<=hi/\hi<=l.length/\r=l.take lo.toNat++List.replicate (hi.toNat-lo.toNat) z++l.drop hi.toNat:=by
 unfold clr at h
 split at h
 ·rename_i h1;cases h;exact⟨h1.1,h1.2.1,h1.2.2,rfl⟩
 ·cases h
theorem clr_get{α:Type} {l:List α} {lo hi:Nat} {z x:α} {i:Nat} (h1:lo<=hi) (h2:hi<=l.length) (h:(l.take lo++List.replicate (hi-lo) z++l.drop hi)[i]?=some x) :
  (lo<=i/\i<hi/\x=z)\/((i<lo\/hi<=i)/\l[i]?=some x):=by
 rw[List.append_assoc,List.getElem?_append,List.length_take,Nat.min_eq_left (by omega)] at h
 split at h
 ·rename_i hi1
  rw[List.getElem?_take,if_pos hi1] at h
  exact .inr ⟨.inl hi1,h⟩
 ·rename_i hi1
  rw[List.getElem?_append,List.length_replicate] at h
  split at h
  ·rw[List.getElem?_replicate] at h
   split at h<;>cases h<;>exact .inl ⟨by omega,by omega,rfl⟩
  ·rw[List.getElem?_drop,show hi+(i-lo-(hi-lo))=i by omega] at h
   exact .inr ⟨.inr (by omega),h⟩
theorem ok_clear{P:Program} {E:Env} (hE:EnvOk P E) {o:Oper} {m:Bool} {c:Call} (ho:o.op=.call c) (hc:c.callee=.builtin .clear):OpOk P E o m:=by
 intro w0 I nt U M st a w id h hd
 refine⟨false,fun ω _ p f hg hfr=>?_⟩
 simp only[evOp,ho,hc,evBuiltin] at hg
 have hslot:∀ (st:St) (b:List (Nat×Bx)) (n:Nat),look (st.patch o.dst { v:=none,bs:=b }).sl n=if o.dst=some n then some none else look st.sl n:=fun st b n=>by
  cases ho':o.dst with
  | none=>simp [St.patch]
  | some d=>simp only[St.patch,look_cons,Option.some.injEq]
 split at hg
 ·rename_i x t hargs htys
  obtain⟨v,_,hv,hg,_⟩:=goes_opd hg
  obtain⟨rv,sv⟩:=opd_rep hE h hv
  split at hg
  ·rename_i q b
   split at hg
   ·rename_i k hty
    obtain⟨cb,_,hcb,hg,_⟩:=goes_rdW hg
    split at hg
    ·rename_i l hl
     obtain⟨r,hr,hg⟩:=goes_eff hg
     cases hg
     obtain⟨h0,h1,h2,rfl⟩:=clr_some hr
     obtain⟨tc,vc,sc⟩:=cb
     obtain⟨e2,rfl⟩:=castTo_eq hl
     dsimp only at e2
     subst e2
     replace h2:q.2.2<=(List.length vc:Int):=h2
     have rv':RepC P .nx w (own st M) M q (.mref b) [a.eval x]:=rv
     obtain⟨av,cp,ev,er⟩:=rv'
     replace ev:=(List.cons.inj ev).1
     obtain⟨et,hun,hec,hem⟩:=chk_sl (hE.ty _ _ hty)
     have hz:(zeroValue et).run P w=.ok (valOf (Ty.int k).agg (zc (.int k))) w:=run_zero (chk_info hec (mem_std hem)) w
     have hz:(zeroValue et).run P w=.ok (.int k 0) w:=hz
     obtain⟨hb1,_,_⟩:=h.bx _ _ hcb
     have hb1':=hb1
     obtain⟨t0,pa,n,c',k1,k2,k3,k4,k5⟩:=hb1'
     have hargs':c.args.map a.eval=#[a.eval x]:=by
      have:c.args=#[x]:=Array.toList_inj.1 hargs
      rw[this];simp
     have ht:c.argTypes[0]?=some t:=by
      have:c.argTypes=#[t]:=Array.toList_inj.1 htys
      rw[this];rfl
     have fin:∀ (bb o':Nat) (us:List Value),(Builtin.clear_ c.argTypes o.type (c.args.map a.eval)).run P w=.ok (.tuple #[]) (w.setCells bb o' us)->(∀ j,j<us.length->inBox M b (.ms (.int k)) bb (o'+j)) ->
       (Ext (own st M) w (w.setCells bb o' us)->BoxOk P (w.setCells bb o' us) (own st M) M b ⟨.ms (.int k),List.take q.2.1.toNat vc++List.replicate (q.2.2.toNat-q.2.1.toNat) (0:Int)++List.drop q.2.2.toNat vc,.o⟩) ->
       StepOk P o a w fun v w'=>∃ M',Agree U M M'/\Rel P w0 I nt (fun j=>U j\/(id<=j/\j<id+1)) M' (st.patch o.dst { v:=none,bs:=[(b,.rw ⟨.ms (.int k),List.take q.2.1.toNat vc++List.replicate (q.2.2.toNat-q.2.1.toNat) (0:Int)++List.drop q.2.2.toNat vc,.o⟩)] }) (a.put o.dst v) w':=fun bb o' us hrun hin hbox=>by
      refine StepOk.value (v:=.tuple #[]) (w':=w.setCells bb o' us) (exec_builtin ho hc fun _=>by simp only[builtin,Sem.run_bind,hrun,Result.andThen_ok,Sem.run_pure]) ⟨M,Agree.refl _ _,?_⟩
      have hw:=h.write hd hcb (c':=⟨.ms (.int k),List.take q.2.1.toNat vc++List.replicate (q.2.2.toNat-q.2.1.toNat) (0:Int)++List.drop q.2.2.toNat vc,.o⟩) (us:=us) (o':=o') hin (fun b o hb=>hb) hbox trivial
       (hslot st [(b,.rw ⟨.ms (.int k),List.take q.2.1.toNat vc++List.replicate (q.2.2.toNat-q.2.1.toNat) (0:Int)++List.drop q.2.2.toNat vc,.o⟩)]) (fun n=>by simp only[St.patch,look_put1]) (fun n=>rfl) rfl (.tuple #[])
      exact hw.upd (fun k hk=>.inl hk) (Agree.refl _ _) (Ext.refl _ _) (fun _ _ _ h=>h) (fun n v hn=>.inl ⟨hn,rfl⟩) (fun n v hn=>.inl ⟨hn,fun _ _ _=>rfl⟩) (Ext.refl _ _) (fun _ _ _ h=>h) (fun n z v hn=>.inl hn) (fun k hk=>.inl (hw.tk k hk)) hw.live hw.dis hw.keep hw.size hw.defs (fun _ _ _ _=>rfl) (fun _ _ hk _=>hk)
     by_cases hlt:q.2.1.toNat<q.2.2.toNat
     ·obtain⟨p,hp,rfl⟩:=er hlt
      have hpa:pa=some p:=by rw[k1] at hp;exact hp
      subst hpa
      obtain⟨f1,f2⟩:=k5 p rfl
      have hin:∀ j,j<(List.replicate (q.2.2.toNat-q.2.1.toNat) (Value.int k 0)).length->inBox M b (.ms (.int k)) p.1 (p.2+q.2.1.toNat+j):=fun j hj=>by
       rw[List.length_replicate] at hj
       have:=row_in hb1 hp (i:=q.2.1.toNat+j) (j:=0) (by omega) (by show 0<1;omega)
       have e:p.2+(q.2.1.toNat+j)*(Ty.int k).size+0=p.2+q.2.1.toNat+j:=by show p.2+(q.2.1.toNat+j)*1+0=_;omega
       rwa [e] at this
      have hlv:∀ j,j<(List.replicate (q.2.2.toNat-q.2.1.toNat) (Value.int k 0)).length->(w.cell? ⟨p.1,p.2+q.2.1.toNat+j,none⟩).isSome=true/\w.frozen? ⟨p.1,p.2+q.2.1.toNat+j,none⟩=false:=fun j hj=>by
       obtain⟨l1,l2,_⟩:=h.live _ _ ⟨.b b,_,hcb,hin j hj⟩
       exact⟨l1,l2 _⟩
      refine fin p.1 (p.2+q.2.1.toNat) (List.replicate (q.2.2.toNat-q.2.1.toNat) (.int k 0)) ?_ hin (fun hx=>?_)
      ·have hst:=run_storeCells_cells (P:=P) p.1 (p.2+q.2.1.toNat) (List.replicate (q.2.2.toNat-q.2.1.toNat) (Value.int k 0)) 0 w (fun j hj=>(hlv j hj).1) (fun j hj=>(hlv j hj).2) (fun v hv=>by rw[List.eq_of_mem_replicate hv];rfl)
       rw[hargs',ev]
       obtain⟨d,hd'⟩:∃ d,q.2.2.toNat-q.2.1.toNat=d+1:=⟨q.2.2.toNat-q.2.1.toNat-1,by omega⟩
       rw[hd'] at hst ⊢
       simp only[Builtin.clear_,ht,List.getElem?_toArray,List.getElem?_cons_zero,Sem.run_bind,run_underlying hun,Result.andThen_ok,hz,Value.cells,zeroCells_int,hst,Sem.run_pure,Nat.add_zero]
      ·refine⟨t0,some p,n,c',k1,?_,k3,k4,fun p' hp'=>?_⟩
       ·show n=List.length _
        rw[List.length_append,List.length_append,List.length_take,List.length_replicate,List.length_drop]
        rw[k2];omega
       ·cases hp'
        refine⟨f1,fun i y hy=>?_⟩
        have hcells:∀ j,q.2.1.toNat<=j->j<q.2.2.toNat->(w.setCells p.1 (p.2+q.2.1.toNat) (List.replicate (q.2.2.toNat-q.2.1.toNat) (.int k 0))).cell? ⟨p.1,p.2+j,none⟩=some (.int k 0):=fun j hj1 hj2=>by
         have:=World.cell?_setCells_in p.1 (List.replicate (q.2.2.toNat-q.2.1.toNat) (Value.int k 0)) (p.2+q.2.1.toNat) w (fun j hj=>(hlv j hj).1) (j-q.2.1.toNat) (by rw[List.length_replicate];omega)
         rw[List.getElem_replicate] at this
         rw[← this]
         congr 2
         omega
        rcases clr_get (by omega) (by omega) hy with⟨g1,g2,rfl⟩ | ⟨g1,g2⟩
        ·refine⟨[.int k 0],rfl,fun j u hu=>?_,?_⟩
         ·cases j with
          | zero =>
           cases hu
           have:=hcells i g1 g2
           rw[← this]
           congr 2
           show p.2+i*1+0=_
           omega
          | succ j=>cases hu
         ·exact⟨rfl,by cases k<;>decide,by cases k<;>decide⟩
        ·obtain⟨es,s1,s2,s3⟩:=f2 _ _ g2
         refine⟨es,s1,fun j u hu=>?_,s3.mono P _ hx (fun _ _ _ h=>h) trivial⟩
         rw[World.cell?_setCells_out p.1 _ _ w _ (fun _ _=>?_)]
         ·exact s2 j u hu
         ·have hj:j<1:=by
           have:=(List.getElem?_eq_some_iff.1 hu).1
           rw[s1] at this;exact this
          rw[List.length_replicate]
          show p.2+i*1+j<_\/_<=p.2+i*1+j
          omega
     ·have he:q.2.2.toNat-q.2.1.toNat=0:=by omega
      have hqq:q.2.1.toNat=q.2.2.toNat:=by omega
      refine fin 0 0 [] ?_ (fun j hj=>by simp at hj) (fun hx=>?_)
      ·rw[hargs',ev,he]
       simp only[Builtin.clear_,ht,List.getElem?_toArray,List.getElem?_cons_zero,Sem.run_bind,run_underlying hun,Result.andThen_ok,Sem.run_pure]
       cases av<;>simp only[Sem.run_pure,Result.andThen_ok]<;>rfl
      ·rw[he,List.replicate_zero,List.append_nil,← hqq,List.take_append_drop]
       exact hb1
    ·cases hg
   ·cases hg
  ·cases hg
 ·cases hg
end Go.VX
/- VX, part 41: a region's operations, one by one, whatever is guarded. -/
set_option linter.unusedVariables false
set_option linter.unusedSimpArgs false
namespace Go.VX
structure FSt where
  st:St
  us:Nat->Prop
inductive Stp where
  | skip
  | run (id:Nat) (m:Bool) (p:Patch) (f:List Loc)
  | pick (v:Vl)
def Stp.app(o:Oper):Stp->FSt->FSt
  | .skip,x=>⟨x.st.patch o.dst { v:=none },fun n=>x.us n\/o.dst=some n⟩
  | .run _ _ p _,x=>⟨x.st.patch o.dst p,fun n=>x.us n/\o.dst≠some n⟩
  | .pick v,x=>⟨x.st.patch o.dst { v:=some v },fun n=>x.us n/\o.dst≠some n⟩
def gRun(ops:Array Oper) (g:Option (Nat×Bool)) (st:St):Prop :=
  match g with
  | none=>True
  | some (j,w)=>∃ oj c s,ops[j]?=some oj/\oj.dst=some c/\look st.sl c=some (some ⟨.bool,w,s⟩)
def gSkip(ops:Array Oper) (g:Option (Nat×Bool)) (x:FSt):Prop :=
  match g with
  | none=>False
  | some (j,w)=>∃ oj,ops[j]?=some oj/\∀ c,oj.dst=some c->x.us c\/∃ s,look x.st.sl c=some (some ⟨.bool,!w,s⟩)
def sel(q:Bool) (a b:Operand):Operand:=match q with
  | true=>a
  | false=>b
def PickOk(E:Env) (o:Oper) (v:Vl) (st:St):Prop :=
  ∃ d c a b q s τ y u,o.dst=some d/\o.op=.pick (.tmp c) a b/\look st.sl c=some (some ⟨.bool,q,s⟩)/\look E.ty o.type=some τ/\Opd st E (sel q a b) (some τ) u/\castV τ u=some y/\v=⟨τ,y,.o⟩
def AR(E:Env) (ops:Array Oper) (fps:List (Nat×Nat)) (Fin:Nat->FSt->Prop):List Nat->Nat->FSt->Prop
  | [],lo,x=>Fin lo x
  | i::l,lo,x=>∃ o,ops[i]?=some o /\
      ((gSkip ops o.guard x/\AR E ops fps Fin l lo (Stp.skip.app o x)) \/
       (∃ v,gRun ops o.guard x.st/\PickOk E o v x.st/\AR E ops fps Fin l lo ((Stp.pick v).app o x)) \/
       (gRun ops o.guard x.st/\∃ id m,lo<=id/\∀ ω,∃ p f,Goes x.st ω (evOp E id m o) p f/\fpOk fps i o.dst p f=true/\AR E ops fps Fin l (id+p.fr) ((Stp.run id m p f).app o x)))
theorem AR.mono{E:Env} {ops:Array Oper} {fps:List (Nat×Nat)} {Fin Fin':Nat->FSt->Prop} (hf:∀ lo x,Fin lo x->Fin' lo x):∀ (l:List Nat) (lo:Nat) (x:FSt),AR E ops fps Fin l lo x->AR E ops fps Fin' l lo x
  | [],lo,x,h=>hf lo x h
  | i::l,lo,x,⟨o,ho,h⟩=>by
    refine⟨o,ho,?_⟩
    rcases h with⟨h1,h2⟩ | ⟨v,h1,h2,h3⟩ | ⟨h1,id,m,h2,h3⟩
    · exact .inl ⟨h1,AR.mono hf l _ _ h2⟩
    · exact .inr (.inl ⟨v,h1,h2,AR.mono hf l _ _ h3⟩)
    · refine .inr (.inr ⟨h1,id,m,h2,fun ω=>?_⟩)
      obtain⟨p,f,k1,k2,k3⟩:=h3 ω
      exact⟨p,f,k1,k2,AR.mono hf l _ _ k3⟩
theorem AR.append{E:Env} {ops:Array Oper} {fps:List (Nat×Nat)} {Fin:Nat->FSt->Prop} (l2:List Nat):∀ (l:List Nat) (lo:Nat) (x:FSt),AR E ops fps (fun lo y=>AR E ops fps Fin l2 lo y) l lo x->AR E ops fps Fin (l++l2) lo x
  | [],lo,x,h=>h
  | i::l,lo,x,⟨o,ho,h⟩=>by
    refine⟨o,ho,?_⟩
    rcases h with⟨h1,h2⟩ | ⟨v,h1,h2,h3⟩ | ⟨h1,id,m,h2,h3⟩
    · exact .inl ⟨h1,AR.append l2 l _ _ h2⟩
    · exact .inr (.inl ⟨v,h1,h2,AR.append l2 l _ _ h3⟩)
    · refine .inr (.inr ⟨h1,id,m,h2,fun ω=>?_⟩)
      obtain⟨p,f,k1,k2,k3⟩:=h3 ω
      exact⟨p,f,k1,k2,AR.append l2 l _ _ k3⟩
structure Le (s t:St):Prop where
  sl:∀ n v,look s.sl n=some (some v)->look t.sl n=some (some v)
  bx:∀ n,look s.bx n=look t.bx n
  tk:∀ k,look s.tk k=some true->look t.tk k=some true
theorem Le.refl(s:St):Le s s:=⟨fun _ _ h=>h,fun _=>rfl,fun _ h=>h⟩
theorem Goes.le{s t:St} {ω:Bool} (h:Le s t):∀ {m:RM} {p:Patch} {f:List Loc},Goes s ω m p f->Goes t ω m p f:=by
  intro m p f g
  induction g with
  | ret p=>exact .ret p
  | rdS hv _ ih=>exact .rdS (h.sl _ _ hv) ih
  | rdBw hv _ ih=>exact .rdBw (by rw[← h.bx];exact hv) ih
  | rdBo hv _ ih=>exact .rdBo (by rw[← h.bx];exact hv) ih
  | rdW hv _ ih=>exact .rdW (by rw[← h.bx];exact hv) ih
  | rdFw hv _ ih=>exact .rdFw (by rw[← h.bx];exact hv) ih
  | rdFo hv _ ih=>exact .rdFo (by rw[← h.bx];exact hv) ih
  | rdT hv _ ih=>exact .rdT (h.tk _ hv) ih
  | eff hx _ ih=>exact .eff hx ih
  | amb _ ih=>exact .amb ih
theorem look_putL_eq{α:Type}:∀ (ds l:List (Nat×α)) (n:Nat),look (putL ds l) n=match look (putL ds []) n with
    | some x=>some x
    | none=>look l n
  | [],l,n=>rfl
  | (k,x)::ds,l,n=>by
    rw[putL,putL,look_putL_eq ds ((k,x)::l),look_putL_eq ds [(k,x)]]
    cases look (putL ds []) n with
    | some y=>rfl
    | none =>
      simp only[look_cons]
      split<;>rfl
theorem look_putL_congr{α:Type} {ds l l':List (Nat×α)} {n:Nat} (h:look l n=look l' n):look (putL ds l) n=look (putL ds l') n:=by
  rw[look_putL_eq,look_putL_eq ds l',h]
theorem look_putL_true{ds l l':List (Nat×Bool)} {n:Nat} (h:look l n=some true->look l' n=some true) (k:look (putL ds l) n=some true):look (putL ds l') n=some true:=by
  rw[look_putL_eq] at k ⊢
  cases hp:look (putL ds []) n with
  | some y=>rw[hp] at k;exact k
  | none=>rw[hp] at k;exact h k
theorem look_putL_all{ds l l':List (Nat×Bool)} {n:Nat} (h:look l n=some true->look l' n=some true) (hd:ds.all (·.2)=true) (k:look l n=some true):look (putL ds l') n=some true:=by
  rw[look_putL_eq]
  cases hp:look (putL ds []) n with
  | some y =>
    rcases look_putL hp with hm | ⟨_,hm⟩
    · have:=List.all_eq_true.1 hd _ hm
      dsimp only at this ⊢
      rw[this]
    · cases hm
  | none=>exact h k
theorem patch_sl{st:St} {dst:Option Nat} {p:Patch} {n:Nat}:look (st.patch dst p).sl n=if dst=some n then some p.v else look st.sl n:=by
  cases dst with
  | none=>simp [St.patch]
  | some d=>simp only[St.patch,look_cons,Option.some.injEq]
theorem Le.patch{s t:St} (h:Le s t) (dst:Option Nat) (p:Patch):Le (s.patch dst p) (t.patch dst p):=by
  refine⟨fun n v hn=>?_,fun n=>look_putL_congr (h.bx n),fun k hk=>look_putL_true (h.tk k) hk⟩
  rw[patch_sl] at hn ⊢
  split
  · rename_i e;rw[if_pos e] at hn;exact hn
  · rename_i e;rw[if_neg e] at hn;exact h.sl n v hn
theorem Le.patchG{s t:St} (h:Le s t) (dst:Option Nat) {p:Patch} (hb:p.bs=[]) (ht:p.ts.all (·.2)=true):Le (s.patch dst { p with ts:=[] }) (t.patch dst p):=by
  refine⟨fun n v hn=>?_,fun n=>look_putL_congr (h.bx n),fun k hk=>look_putL_all (h.tk k) ht hk⟩
  rw[patch_sl] at hn ⊢
  split
  · rename_i e;rw[if_pos e] at hn;exact hn
  · rename_i e;rw[if_neg e] at hn;exact h.sl n v hn
theorem Opd.le{s t:St} {E:Env} {x:Operand} {hint:Option Ty} {v:Vl} (h:Opd s E x hint v) (hs:∀ n,x=.tmp n->∀ v,look s.sl n=some (some v)->look t.sl n=some (some v)):Opd t E x hint v:=by
  cases x with
  | tmp n=>exact hs n rfl v h
  | const c=>exact h
  | global g=>exact h
  | func f=>exact h
theorem inMask_all{m:Nat}:∀ {f:List Loc},inMask m f=true↔∀ l∈f,m.testBit l.code=true
  | []=>by simp [inMask]
  | x::f=>by simp only[inMask,Bool.and_eq_true,inMask_all (f:=f),List.forall_mem_cons]
theorem fpOk_perm{fps:List (Nat×Nat)} {i:Nat} {dst:Option Nat} {p:Patch} {f f':List Loc} (h:fpOk fps i dst p f=true) (hf:∀ l∈f',l∈f):fpOk fps i dst p f'=true:=by
  cases fps with
  | nil=>rfl
  | cons a fps =>
    simp only[fpOk] at h ⊢
    cases hh:(a::fps)[i]? with
    | none=>rw[hh] at h;cases h
    | some q =>
      obtain⟨r,w⟩:=q
      rw[hh] at h
      simp only[Bool.and_eq_true] at h ⊢
      exact⟨inMask_all.2 fun l hl=>inMask_all.1 h.1 l (hf l hl),h.2⟩
def NodupD(ops:Array Oper):Prop:=∀ (i i':Nat) (o o':Oper) (d:Nat),ops[i]?=some o->ops[i']?=some o'->o.dst=some d->o'.dst=some d->i=i'
theorem nodupD_of{ops:Array Oper} (h:nodupN (ops.toList.filterMap (·.dst))=true):NodupD ops:=by
  have h:=nodupN_spec h
  have key:∀ (l:List Oper),(l.filterMap (·.dst)).Nodup->∀ (i i':Nat) (o o':Oper) (d:Nat),l[i]?=some o->l[i']?=some o'->o.dst=some d->o'.dst=some d->i=i':=by
    intro l
    induction l with
    | nil=>intro _ i i' o o' d h1;simp at h1
    | cons x l ih =>
      intro hn i i' o o' d h1 h2 h3 h4
      have hl:(l.filterMap (·.dst)).Nodup:=by
        cases hx:x.dst with
        | none=>rw[List.filterMap_cons,hx] at hn;exact hn
        | some y=>rw[List.filterMap_cons,hx] at hn;exact(List.nodup_cons.1 hn).2
      have hx:∀ (j:Nat) (oj:Oper),l[j]?=some oj->oj.dst=some d->x.dst≠some d:=fun j oj hj hd hxd=>by
        rw[List.filterMap_cons,hxd] at hn
        exact(List.nodup_cons.1 hn).1 (List.mem_filterMap.2 ⟨oj,List.mem_of_getElem? hj,hd⟩)
      cases i with
      | zero =>
        cases i' with
        | zero=>rfl
        | succ i' =>
          simp only[List.getElem?_cons_zero,Option.some.injEq] at h1
          subst h1
          exact(hx i' o' (by simpa using h2) h4 h3).elim
      | succ i =>
        cases i' with
        | zero =>
          simp only[List.getElem?_cons_zero,Option.some.injEq] at h2
          subst h2
          exact(hx i o (by simpa using h1) h3 h4).elim
        | succ i'=>rw[ih hl i i' o o' d (by simpa using h1) (by simpa using h2) h3 h4]
  intro i i' o o' d h1 h2
  exact key ops.toList h i i' o o' d (by simpa using h1) (by simpa using h2)
def FrS(ops:Array Oper) (l:List Nat) (x y:FSt):Prop:=∀ n,(∀ i∈l,∀ o,ops[i]?=some o->o.dst≠some n)->look y.st.sl n=look x.st.sl n
def FrB(c:Nat) (x y:FSt):Prop:=(∀ n,look y.st.bx n=look x.st.bx n)/\∀ k,k<c->look x.st.tk k=some true->look y.st.tk k=some true
theorem FrB.refl(c:Nat) (x:FSt):FrB c x x:=⟨fun _=>rfl,fun _ _ h=>h⟩
theorem FrB.trans{c:Nat} {x y z:FSt} (h:FrB c x y) (k:FrB c y z):FrB c x z:=⟨fun n=>(k.1 n).trans (h.1 n),fun n hc hn=>k.2 n hc (h.2 n hc hn)⟩
theorem FrB.le{c d:Nat} {x y:FSt} (h:FrB d x y) (k:c<=d):FrB c x y:=⟨h.1,fun n hc hn=>h.2 n (Nat.lt_of_lt_of_le hc k) hn⟩
theorem look_putL_old{c:Nat} {ds l l':List (Nat×Bool)} {n:Nat} (hn:n<c) (h:look l n=some true->look l' n=some true) (hd:(ds.all fun q=>q.2||Nat.ble c q.1)=true) (k:look l n=some true):look (putL ds l') n=some true:=by
  rw[look_putL_eq]
  cases hp:look (putL ds []) n with
  | some y =>
    rcases look_putL hp with hm | ⟨_,hm⟩
    · have:=List.all_eq_true.1 hd _ hm
      simp only[Bool.or_eq_true] at this
      rcases this with this | this
      · dsimp only at this ⊢;rw[this]
      · have:=Nat.le_of_ble_eq_true this;omega
    · cases hm
  | none=>exact h k
theorem app_sl{o:Oper} {s:Stp} {x:FSt} {n:Nat} (h:o.dst≠some n):look (s.app o x).st.sl n=look x.st.sl n:=by
  cases s<;>(show look (St.patch _ _ _).sl n=_;rw[patch_sl,if_neg h])
theorem gSkip_app{ops:Array Oper} {g:Option (Nat×Bool)} {x:FSt} {o:Oper} (h:gSkip ops g x) (hd:∀ j w oj c,g=some (j,w)->ops[j]?=some oj->oj.dst=some c->o.dst≠some c):gSkip ops g (Stp.skip.app o x):=by
  unfold gSkip at h ⊢
  split at h
  · exact h.elim
  · rename_i j w
    obtain⟨oj,h1,h2⟩:=h
    refine⟨oj,h1,fun c hc=>?_⟩
    rcases h2 c hc with h3 | ⟨s,h3⟩
    · exact .inl (.inl h3)
    · exact .inr ⟨s,by rw[app_sl (hd j w oj c rfl h1 hc)];exact h3⟩
theorem memNat_true{l:List Nat} {n:Nat}:memNat l n=true->n∈l:=by
  induction l with
  | nil=>intro h;cases h
  | cons a l ih =>
    intro h
    simp only[memNat] at h
    split at h
    · rename_i hb;have:=Nat.eq_of_beq_eq_true hb;subst this;exact List.mem_cons_self
    · exact List.mem_cons_of_mem _ (ih h)
theorem guardIs_eq{o:Oper} {g:Option (Nat×Bool)} (h:guardIs o g=true):o.guard=g:=of_decide_eq_true h
theorem skip_AR{E:Env} {ops:Array Oper} {fps:List (Nat×Nat)} (hnd:NodupD ops):∀ (its:Its) (g:Option (Nat×Bool)) (js:List Nat) (x:FSt) (lo:Nat) (Fin:Nat->FSt->Prop),itsOk ops its g js=true->gSkip ops g x ->
    (∀ k∈js,∀ ok c,ops[k]?=some ok->ok.dst=some c->x.us c)->its.flat.Nodup->(∀ j w,g=some (j,w)->j ∉ its.flat)->(∀ k∈js,k ∉ its.flat) ->
    (∀ y,FrS ops its.flat x y->(∀ n,look y.st.bx n=look x.st.bx n)->(∀ k,look y.st.tk k=look x.st.tk k)->(∀ c,x.us c->y.us c)->gSkip ops g y->Fin lo y)->AR E ops fps Fin its.flat lo x:=by
  intro its
  induction its with
  | nil =>
    intro g js x lo Fin _ hg _ _ _ _ hF
    exact hF x (fun _ _=>rfl) (fun _=>rfl) (fun _=>rfl) (fun _ h=>h) hg
  | op i m rest ih =>
    intro g js x lo Fin hok hg hjs hn hj hjd hF
    simp only[itsOk,Bool.and_eq_true] at hok
    obtain⟨h1,h2⟩:=hok
    split at h1
    · rename_i o ho
      have hgo:=guardIs_eq h1
      simp only[Its.flat,List.nodup_cons] at hn
      have hne:∀ j w oj c,g=some (j,w)->ops[j]?=some oj->oj.dst=some c->o.dst≠some c:=fun j w oj c e hoj hc hd=>by
        have:=hnd _ _ _ _ _ hoj ho hc hd
        exact hj j w e (by simp [Its.flat,this])
      refine⟨o,ho,.inl ⟨by rw[hgo];exact hg,ih g (i::js) _ lo Fin h2 (gSkip_app hg hne) (fun k hk ok c hok hc=>?_) hn.2 (fun j w e h=>hj j w e (by simp [Its.flat,h])) (fun k hk hkf=>(List.mem_cons.1 hk).elim (fun e=>by subst e;exact hn.1 hkf) fun hk=>hjd k hk (by simp [Its.flat,hkf])) (fun y y1 y2 y3 y4 y5=>hF y (fun n hn=>?_) y2 y3 (fun c hc=>y4 c (.inl hc)) y5)⟩⟩
      · rcases List.mem_cons.1 hk with rfl | hk
        · rw[ho] at hok;cases hok;exact .inr hc
        · exact .inl (hjs k hk ok c hok hc)
      · rw[y1 n fun i' hi'=>hn i' (by simp [Its.flat,hi'])]
        exact app_sl (hn i (by simp [Its.flat]) o ho)
    · cases h1
  | grp j w body pick rest ihb ihr =>
    intro g js x lo Fin hok hg hjs hn hj hjd hF
    simp only[itsOk,Bool.and_eq_true] at hok
    obtain⟨⟨⟨h1,h2⟩,h3⟩,h4⟩:=hok
    split at h3
    · rename_i oj op hoj hop
      simp only[Bool.and_eq_true] at h3
      have hgo:=guardIs_eq h3.1
      have hjm:=memNat_true h1
      simp only[Its.flat] at hn hj hF ⊢
      rw[List.nodup_append] at hn
      obtain⟨n1,n2,n3⟩:=hn
      rw[List.nodup_cons] at n2
      refine AR.append _ _ _ _ (ihb (some (j,w)) [] x lo _ h2 ⟨oj,hoj,fun c hc=>.inl (hjs j hjm oj c hoj hc)⟩ (fun k hk=>by simp at hk) n1 (fun j' w' e hm=>?_) (fun k hk=>by simp at hk) (fun y y1 y2 y3 y4 y5=>?_))
      · cases e
        exact hjd j hjm (by simp [Its.flat,hm])
      · have hgy:gSkip ops g y:=by
          unfold gSkip at hg ⊢
          split at hg
          · exact hg.elim
          · rename_i j' w'
            obtain⟨oj',k1,k2⟩:=hg
            refine⟨oj',k1,fun c hc=>?_⟩
            rcases k2 c hc with k3 | ⟨s,k3⟩
            · exact .inl (y4 c k3)
            · refine .inr ⟨s,?_⟩
              rw[y1 c fun i hi o ho hd=>hj j' w' rfl (by rw[hnd _ _ _ _ _ k1 ho hc hd];simp [hi])]
              exact k3
        have hne:∀ j' w' oj' c,g=some (j',w')->ops[j']?=some oj'->oj'.dst=some c->op.dst≠some c:=fun j' w' oj' c e hoj' hc hd=>by
          have:=hnd _ _ _ _ _ hoj' hop hc hd
          exact hj j' w' e (by simp [this])
        refine⟨op,hop,.inl ⟨by rw[hgo];exact hgy,ihr g (pick::js) _ lo Fin h4 (gSkip_app hgy hne) (fun k hk ok c hok hc=>?_) n2.2 (fun j' w' e h=>hj j' w' e (by simp [h])) (fun k hk hkf=>(List.mem_cons.1 hk).elim (fun e=>by subst e;exact n2.1 hkf) fun hk=>hjd k hk (by simp [Its.flat,hkf])) (fun z z1 z2 z3 z4 z5=>hF z (fun n hn=>?_) (fun n=>(z2 n).trans (y2 n)) (fun n=>(z3 n).trans (y3 n)) (fun c hc=>z4 c (.inl (y4 c hc))) z5)⟩⟩
        · rcases List.mem_cons.1 hk with rfl | hk
          · rw[hop] at hok;cases hok;exact .inr hc
          · exact .inl (y4 c (hjs k hk ok c hok hc))
        · rw[z1 n fun i' hi'=>hn i' (by simp [hi'])]
          rw[app_sl (hn pick (by simp) op hop)]
          exact y1 n fun i' hi'=>hn i' (by simp [hi'])
    · cases h3
end Go.VX
/- VX, part 42: the evaluator's order of a region's operations. -/
set_option linter.unusedVariables false
set_option linter.unusedSimpArgs false
namespace Go.VX
def GOk(ops:Array Oper) (g:Option (Nat×Bool)) (st:St) (l:List Nat):Prop :=
 match g with
 | none=>True
 | some (j,w)=>∃ oj c s,ops[j]?=some oj/\oj.dst=some c/\look st.sl c=some (some ⟨.bool,w,s⟩)/\j ∉ l
theorem GOk.run{ops:Array Oper} {g:Option (Nat×Bool)} {st st':St} {l:List Nat} (h:GOk ops g st l) (k:Le st st'):gRun ops g st':=by
 unfold GOk at h
 unfold gRun
 split at h
 ·trivial
 ·rename_i j w
  obtain⟨oj,c,s,h1,h2,h3,_⟩:=h
  exact⟨oj,c,s,h1,h2,k.sl _ _ h3⟩
theorem GOk.step{ops:Array Oper} (hnd:NodupD ops) {g:Option (Nat×Bool)} {st st':St} {l l':List Nat} (h:GOk ops g st l) (hl:∀ i∈l',i∈l) (hs:∀ n,(∀ i∈l,∀ o,ops[i]?=some o->o.dst≠some n)->look st'.sl n=look st.sl n):GOk ops g st' l':=by
 unfold GOk at h ⊢
 split at h
 ·trivial
 ·rename_i j w
  obtain⟨oj,c,s,h1,h2,h3,h4⟩:=h
  refine⟨oj,c,s,h1,h2,?_,fun hm=>h4 (hl j hm)⟩
  rw[hs c fun i hi o ho hd=>h4 (by rw[hnd _ _ _ _ _ h1 ho h2 hd];exact hi)]
  exact h3
theorem mem_dsts{ops:Array Oper}:∀ (its:Its) (n:Nat),n∈its.dsts ops↔∃ i∈its.flat,∃ o,ops[i]?=some o/\o.dst=some n:=by
 intro its
 induction its with
 | nil=>intro n;simp [Its.dsts,Its.flat]
 | op i m rest ih =>
  intro n
  simp only[Its.dsts,Its.flat,List.mem_cons,exists_eq_or_imp]
  cases ho:ops[i]? with
  | none=>simp [ih]
  | some o =>
   obtain⟨d,_,_,_,_,_⟩:=o
   cases d with
   | none=>simp [ih]
   | some d =>
    simp only[List.mem_cons,ih,Option.some.injEq]
    constructor
    ·rintro(h | h)
     ·exact .inl ⟨_,rfl,by simp [h]⟩
     ·exact .inr h
    ·rintro(⟨o,ho,h⟩ | h)
     ·cases ho;simp at h;exact .inl h.symm
     ·exact .inr h
 | grp j w body pick rest ihb ihr =>
  intro n
  simp only[Its.dsts,Its.flat,List.mem_append,List.mem_cons]
  constructor
  ·rintro(h | h)
   ·obtain⟨i,h1,h2⟩:=(ihb n).1 h
    exact⟨i,.inl h1,h2⟩
   ·cases hp:ops[pick]? with
    | none =>
     rw[hp] at h
     obtain⟨i,h1,h2⟩:=(ihr n).1 h
     exact⟨i,.inr (.inr h1),h2⟩
    | some op =>
     obtain⟨d,_,_,_,_,_⟩:=op
     rw[hp] at h
     cases d with
     | none =>
      obtain⟨i,h1,h2⟩:=(ihr n).1 h
      exact⟨i,.inr (.inr h1),h2⟩
     | some d =>
      rcases List.mem_cons.1 h with h | h
      ·exact⟨pick,.inr (.inl rfl),_,hp,by simp [h]⟩
      ·obtain⟨i,h1,h2⟩:=(ihr n).1 h
       exact⟨i,.inr (.inr h1),h2⟩
  ·rintro⟨i,h | h | h,o,ho,hd⟩
   ·exact .inl ((ihb n).2 ⟨i,h,o,ho,hd⟩)
   ·subst h
    right
    rw[ho]
    obtain⟨d,_,_,_,_,_⟩:=o
    dsimp only at hd
    subst hd
    exact List.mem_cons_self
   ·right
    have:=(ihr n).2 ⟨i,h,o,ho,hd⟩
    split
    ·exact List.mem_cons_of_mem _ this
    ·exact this
theorem look_none_append{l:List Nat} {m:List (Nat×Option Vl)} {n:Nat} {v:Vl} (h:look (l.map (·,none)++m) n=some (some v)):n ∉ l/\look m n=some (some v):=by
 induction l with
 | nil=>exact⟨by simp,h⟩
 | cons a l ih =>
  rw[List.map_cons,List.cons_append,look_cons] at h
  split at h
  ·cases h
  ·rename_i e
   obtain⟨h1,h2⟩:=ih h
   exact⟨by simp only[List.mem_cons,not_or];exact⟨fun e'=>e e'.symm,h1⟩,h2⟩
theorem look_append_out{l:List Nat} {m:List (Nat×Option Vl)} {n:Nat} (h:n ∉ l):look (l.map (·,none)++m) n=look m n:=by
 induction l with
 | nil=>rfl
 | cons a l ih =>
  simp only[List.mem_cons,not_or] at h
  rw[List.map_cons,List.cons_append,look_cons,if_neg (fun e=>h.1 e.symm)]
  exact ih h.2
theorem fin_opd{E:Env} {τ:Ty} {st:St} {x:Operand} {y:τ.D} (h:((opd E x (some τ) retV).go st [] fun p _=>match p.v with
  | some v=>castV τ v
  | none=>none)=some y):∃ u,Opd st E x (some τ) u/\castV τ u=some y:=by
 obtain⟨p,f,g,e⟩:=go_goes false _ _ _ h
 obtain⟨u,f',hu,g,_⟩:=goes_opd g
 have:=goes_retV g
 subst this
 exact⟨u,hu,e⟩
theorem cnd_some{α:Type} {b:Bool} {x y:Option α} {r:α} (h:cnd b x y=some r):(b=true/\x=some r)\/(b=false/\y=some r):=by
 cases b
 ·exact .inr ⟨rfl,h⟩
 ·exact .inl ⟨rfl,h⟩
structure WrOk (s t:St):Prop where
 wr:∀ l∈s.wr,l∈t.wr
 sl:∀ n v,Loc.s n ∉ t.wr->look t.sl n=some (some v)->look s.sl n=some (some v)
 bx:∀ n y,Loc.b n ∉ t.wr->look t.bx n=some y->look s.bx n=some y
theorem WrOk.refl(s:St):WrOk s s:=⟨fun _ h=>h,fun _ _ _ h=>h,fun _ _ _ h=>h⟩
theorem WrOk.trans{s t u:St} (h:WrOk s t) (k:WrOk t u):WrOk s u :=
 ⟨fun l hl=>k.wr l (h.wr l hl),fun n v hn hl=>h.sl n v (fun hm=>hn (k.wr _ hm)) (k.sl n v hn hl),fun n y hn hl=>h.bx n y (fun hm=>hn (k.wr _ hm)) (k.bx n y hn hl)⟩
theorem WrOk.patch(s:St) (dst:Option Nat) (p:Patch):WrOk s (s.patch dst p):=by
 refine⟨fun l hl=>by simp only[St.patch,List.mem_append];exact .inr hl,fun n v hn hl=>?_,fun n y hn hl=>?_⟩
 ·rw[patch_sl] at hl
  split at hl
  ·rename_i e
   subst e
   exact(hn (by simp [St.patch])).elim
  ·exact hl
 ·rcases look_putL hl with hm | ⟨_,hm⟩
  ·exact(hn (by simp only[St.patch,List.mem_append,List.mem_map];exact .inl (.inl (.inr ⟨_,hm,rfl⟩)))).elim
  ·exact hm
theorem evIts_AR{E:Env} {ops:Array Oper} {fps:List (Nat×Nat)} (hnd:NodupD ops):∀ (its:Its) (g:Option (Nat×Bool)) (js:List Nat) (c0:Nat) {R:Type} (st:St) (K:St->Option R) (r:R) (x:FSt) (lo:Nat),
  evIts E ops fps its g c0 st K=some r->c0<=st.cnt->itsOk ops its g js=true->its.flat.Nodup->(∀ k∈js,k ∉ its.flat)->GOk ops g st its.flat->Le st x.st->lo<=st.cnt ->
  AR E ops fps (fun lo' y=>∃ st',Le st' y.st/\lo'<=st'.cnt/\st'.cnt<=st.cnt+32*its.flat.length/\K st'=some r/\FrS ops its.flat x y/\(g≠none->FrB c0 x y)/\WrOk st st') its.flat lo x:=by
 intro its
 induction its with
 | nil =>
  intro g js c0 R st K r x lo h _ _ _ _ _ hle hlo
  exact⟨st,hle,hlo,by simp [Its.flat],h,fun _ _=>rfl,fun _=>FrB.refl c0 x,WrOk.refl st⟩
 | op i m rest ih =>
  intro g js c0 R st K r x lo h hc0 hok hn hjd hg hle hlo
  simp only[itsOk,Bool.and_eq_true] at hok
  obtain⟨h1,h2⟩:=hok
  simp only[Its.flat,List.nodup_cons] at hn
  simp only[evIts] at h
  split at h
  ·rename_i o ho
   rw[ho] at h1
   have hgo:=guardIs_eq h1
   refine⟨o,ho,.inr (.inr ⟨by rw[hgo];exact hg.run hle,st.cnt,m,hlo,fun ω=>?_⟩)⟩
   obtain⟨p,f,gg,e⟩:=go_goes ω _ _ _ h
   split at e
   ·rename_i hfp
    simp only[Bool.and_eq_true] at hfp
    have hfp1:=fpOk_perm (f':=f) hfp.1 (fun l hl=>by simp [hl])
    have hfp2:=Nat.le_of_ble_eq_true hfp.2
    refine⟨p,f,gg.le hle,hfp1,?_⟩
    have hjd':∀ k∈i::js,k ∉ rest.flat:=fun k hk hkf=>(List.mem_cons.1 hk).elim (fun e=>by subst e;exact hn.1 hkf) fun hk=>hjd k hk (by simp [Its.flat,hkf])
    have hgs:∀ (p:Patch),GOk ops g (st.patch o.dst p) rest.flat:=fun p=>hg.step hnd (fun k hk=>by simp [Its.flat,hk]) (fun n hn=>by rw[patch_sl,if_neg (hn i (by simp [Its.flat]) o ho)])
    have hlen:∀ (p':Patch),p'.fr=p.fr->(st.patch o.dst p').cnt=st.cnt+p.fr:=fun p' e=>by rw[← e];rfl
    cases g with
    | none =>
     dsimp only at e
     refine(ih none (i::js) c0 (st.patch o.dst p) K r _ (st.cnt+p.fr) e (by rw[hlen p rfl];omega) h2 hn.2 hjd' (hgs p) (hle.patch _ _) (Nat.le_of_eq (hlen p rfl).symm)).mono (fun lo' y ⟨st',k1,k2,k3,k4,k5,k6,k7⟩=>⟨st',k1,k2,?_,k4,fun n hn=>?_,fun e=>(e rfl).elim,(WrOk.patch st o.dst p).trans k7⟩)
     ·rw[hlen p rfl] at k3;simp only[Its.flat,List.length_cons];omega
     ·rw[k5 n fun i' hi'=>hn i' (by simp [Its.flat,hi'])]
      exact app_sl (hn i (by simp [Its.flat]) o ho)
    | some jw =>
     dsimp only at e
     split at e
     ·rename_i hbs hts
      refine(ih (some jw) (i::js) c0 (st.patch o.dst p) K r _ (st.cnt+p.fr) e (by rw[hlen p rfl];omega) h2 hn.2 hjd' (hgs _) (hle.patch _ _) (Nat.le_of_eq (hlen p rfl).symm)).mono (fun lo' y ⟨st',k1,k2,k3,k4,k5,k6,k7⟩=>⟨st',k1,k2,?_,k4,fun n hn=>?_,fun e=>?_,(WrOk.patch st o.dst p).trans k7⟩)
      ·rw[hlen p rfl] at k3;simp only[Its.flat,List.length_cons];omega
      ·rw[k5 n fun i' hi'=>hn i' (by simp [Its.flat,hi'])]
       exact app_sl (hn i (by simp [Its.flat]) o ho)
      ·refine FrB.trans ⟨fun n=>?_,fun k hc hk=>?_⟩ (k6 e)
       ·show look (putL p.bs x.st.bx) n=_
        rw[hbs];rfl
       ·exact look_putL_old hc (fun h=>h) hts hk
     ·cases e
   ·cases e
  ·cases h
 | grp j w body pick rest ihb ihr =>
  intro g js c0 R st K r x lo h hc0 hok hn hjd hg hle hlo
  simp only[itsOk,Bool.and_eq_true] at hok
  obtain⟨⟨⟨h1,h2⟩,h3⟩,h4⟩:=hok
  have hjm:=memNat_true h1
  simp only[Its.flat] at hn hjd hg ⊢
  have hn0:=hn
  rw[List.nodup_append] at hn
  obtain⟨n1,n2,n3⟩:=hn
  rw[List.nodup_cons] at n2
  cases hoj:ops[j]? with
  | none=>rw[hoj] at h3;cases h3
  | some oj =>
   cases hop:ops[pick]? with
   | none=>rw[hoj,hop] at h3;cases h3
   | some op =>
    rw[hoj,hop] at h3
    simp only[Bool.and_eq_true] at h3
    obtain⟨hgo,h3⟩:=h3
    replace hgo:=guardIs_eq hgo
    split at h3
    ·rename_i c d c' a b hcd hdd hpp
     simp only[Bool.and_eq_true] at h3
     have hcc:=Nat.eq_of_beq_eq_true h3.1
     subst hcc
     have hside:=h3.2
     simp only[evIts,hoj,hop] at h
     obtain⟨odst,oop,oty,oaf,ogd,ops'⟩:=op
     dsimp only at hcd hdd hpp hgo h
     subst hdd hpp
     simp only[hcd] at h
     split at h
     ·rename_i q s hq
      split at h
      ·rename_i τ hτ htk
       replace htk:∀ k,look st.tk k=some true->k<st.cnt:=fun k hk=>Nat.le_of_ble_eq_true (List.all_eq_true.1 htk _ (look_mem hk))
       obtain⟨xv,hx,hrest⟩:=bnd_some h
       clear h
       have hjb:j ∉ body.flat:=fun hm=>hjd j hjm (by simp [hm])
       have hdc:∀ i∈body.flat,∀ o,ops[i]?=some o->o.dst≠some c:=fun i hi o ho hd=>hjb (by rw[hnd _ _ _ _ _ hoj ho hcd hd];exact hi)
       have hdp:∀ i∈body.flat,∀ o,ops[i]?=some o->o.dst≠some d:=fun i hi o ho hd=>n3 i hi pick (by simp) (hnd _ _ _ _ _ ho hop hd rfl)
       have tail:∀ (lo':Nat) (y:FSt) (z:Operand) (u:Vl),lo'<=st.cnt+32*body.flat.length->FrS ops body.flat x y->FrB st.cnt x y->sel q a b=z->Opd y.st E z (some τ) u->castV τ u=some xv ->
         AR E ops fps (fun lo' y=>∃ st',Le st' y.st/\lo'<=st'.cnt/\st'.cnt<=st.cnt+32*(body.flat++pick::rest.flat).length/\K st'=some r/\FrS ops (body.flat++pick::rest.flat) x y/\(g≠none->FrB c0 x y)/\WrOk st st') (pick::rest.flat) lo' y:=by
        intro lo' y z u hlo' hfs hfb hz hu hcu
        have hyc:look y.st.sl c=some (some ⟨.bool,q,s⟩):=by
         rw[hfs c hdc];exact hle.sl _ _ hq
        refine⟨_,hop,.inr (.inl ⟨⟨τ,xv,.o⟩,?_,⟨d,c,a,b,q,s,τ,xv,u,rfl,rfl,hyc,hτ,?_,hcu,rfl⟩,?_⟩)⟩
        ·rw[hgo]
         unfold GOk at hg
         unfold gRun
         split at hg
         ·trivial
         ·rename_i j' w'
          obtain⟨oj',c',s',k1,k2,k3,k4⟩:=hg
          refine⟨oj',c',s',k1,k2,?_⟩
          rw[hfs c' fun i hi o ho hd=>k4 (by rw[hnd _ _ _ _ _ k1 ho k2 hd];simp [hi])]
          exact hle.sl _ _ k3
        ·rw[hz];exact hu
        ·refine(ihr g (pick::js) c0 _ K r _ lo' hrest (by dsimp only;omega) h4 n2.2 (fun k hk hkf=>(List.mem_cons.1 hk).elim (fun e=>by subst e;exact n2.1 hkf) fun hk=>hjd k hk (by simp [hkf])) ?_ ⟨fun n v hnv=>?_,fun n=>?_,fun k hk=>?_⟩ hlo').mono (fun lo2 y2 ⟨st',k1,k2,k3,k4,k5,k6,k7⟩=>⟨st',k1,k2,?_,k4,fun n hn=>?_,fun e=>?_,WrOk.trans ?_ k7⟩)
         ·refine hg.step hnd (fun k hk=>by simp [hk]) (fun n hn=>?_)
          show look ((d,_)::_) n=_
          rw[look_cons,if_neg (fun e=>hn pick (by simp) _ hop (by rw[e]))]
          exact look_append_out fun hm=>by
           obtain⟨i,hi,o,ho,hd⟩:=(mem_dsts body n).1 hm
           exact hn i (by simp [hi]) o ho hd
         ·replace hnv:look ((d,_)::_) n=_:=hnv
          show look (St.patch _ _ _).sl n=_
          rw[patch_sl]
          rw[look_cons] at hnv
          split at hnv
          ·rename_i e;rw[if_pos (by rw[e])];exact hnv
          ·rename_i e
           rw[if_neg (by simpa using e)]
           obtain⟨k1,k2⟩:=look_none_append hnv
           rw[hfs n fun i hi o ho hd=>k1 ((mem_dsts body n).2 ⟨i,hi,o,ho,hd⟩)]
           exact hle.sl _ _ k2
         ·show look st.bx n=look y.st.bx n
          rw[hfb.1];exact hle.bx n
         ·exact hfb.2 k (htk k hk) (hle.tk k hk)
         ·simp only[List.length_append,List.length_cons] at k3 ⊢
          omega
         ·rw[k5 n fun i' hi'=>hn i' (by simp [hi'])]
          rw[app_sl (hn pick (by simp) _ hop)]
          exact hfs n fun i' hi'=>hn i' (by simp [hi'])
         ·refine(hfb.le hc0).trans (FrB.trans ⟨fun _=>rfl,fun _ _ h=>h⟩ (k6 e))
         ·refine⟨fun l hl=>by simp only[List.mem_append];exact .inr hl,fun n v hn hl=>?_,fun n y hn hl=>hl⟩
          replace hl:look ((d,_)::_) n=_:=hl
          rw[look_cons] at hl
          split at hl
          ·rename_i e;subst e;exact(hn (by simp)).elim
          ·exact(look_none_append hl).2
       rcases cnd_some hx with⟨hc,hx⟩ | ⟨hc,hx⟩
       ·
        have hqw:q=w:=by cases w<;>cases q<;>simp_all
        subst hqw
        refine AR.append _ _ _ _ ((ihb (some (j,q)) [] st.cnt st _ xv x lo hx (Nat.le_refl _) h2 n1 (fun k hk=>by simp at hk) ⟨oj,c,s,hoj,hcd,hq,hjb⟩ hle hlo).mono (fun lo' y ⟨st',k1,k2,k3,k4,k5,k6,_⟩=>?_))
        obtain⟨u,hu,hcu⟩:=fin_opd k4
        exact tail lo' y _ u (by omega) k5 (k6 (by simp)) (by cases q<;>rfl) (hu.le fun n _ v hv=>k1.sl n v hv) hcu
       ·
        have hqw:q=!w:=by cases w<;>cases q<;>simp_all
        refine AR.append _ _ _ _ (skip_AR hnd body (some (j,w)) [] x lo _ h2 ⟨oj,hoj,fun c2 hc2=>.inr ⟨s,by rw[hcd] at hc2;cases hc2;rw[← hqw];exact hle.sl _ _ hq⟩⟩ (fun k hk=>by simp at hk) n1 (fun j' w' e hm=>by cases e;exact hjb hm) (fun k hk=>by simp at hk) (fun y y1 y2 y3 _ _=>?_))
        obtain⟨u,hu,hcu⟩:=fin_opd hx
        refine tail lo y _ u (by omega) y1 ⟨y2,fun k _ hk=>by rw[y3];exact hk⟩ (by rw[hqw];cases w<;>rfl) (hu.le fun n e v hv=>?_) hcu
        rw[y1 n fun i hi o ho hd=>?_]
        ·exact hle.sl _ _ hv
        ·have hm:n∈body.dsts ops:=(mem_dsts body n).2 ⟨i,hi,o,ho,hd⟩
         rw[e] at hside
         simp only[Bool.not_eq_true'] at hside
         exact memNat_false hside hm
      ·cases h
     ·cases h
    ·cases h3
end Go.VX
/- VX, part 43: a region whose order is given. -/
set_option linter.unusedVariables false
set_option linter.unusedSimpArgs false
namespace Go.VX
theorem ok_any{P:Program} {E:Env} (hE:EnvOk P E) (hQ:EqsOk P E) (o:Oper) (m:Bool):OpOk P E o m:=by
 cases ho:o.op with
 | move x=>exact ok_move hE (.inl ho)
 | assign x=>exact ok_move hE (.inr ho)
 | pick c a b=>exact ok_pick hE ho
 | alloc t=>exact ok_alloc hE ho
 | nilCheck x=>exact ok_nilCheck hE ho
 | box t x=>exact ok_box hE ho
 | build t parts=>exact ok_build hE ho
 | buildSlice t n parts=>exact ok_buildSlice hE ho
 | load t x=>exact ok_load hE ho
 | store t ax x=>exact ok_store hE ho
 | binOp op t x y yt=>exact ok_binOp hE hQ ho
 | unOp op t x=>exact ok_unOp hE ho
 | convert s d x=>exact ok_convert hE ho
 | makeSlice t l c=>exact ok_makeSlice hE ho
 | fieldAddr s x i=>exact ok_fieldAddr hE ho
 | field t x i=>exact ok_field hE ho
 | indexAddr t x i=>exact ok_indexAddr hE ho
 | index t x i=>exact ok_index hE ho
 | extract x i=>exact ok_extract hE ho
 | slice t x lo hi mx =>
  cases mx with
  | none=>exact ok_slice hE ho
  | some z =>
   intro w0 I nt U M st a w id h hd
   refine⟨false,fun ω _ p f hg hfr=>?_⟩
   simp only[evOp,ho] at hg
   cases hg
 | makeFunc fn first caps =>
  cases fn with
  | func f=>exact ok_makeFunc hE ho
  | _ =>
   intro w0 I nt U M st a w id h hd
   refine⟨false,fun ω _ p f hg hfr=>?_⟩
   simp only[evOp,ho] at hg
   cases hg
 | call c =>
  cases hc:c.callee with
  | value x =>
   cases x with
   | func f=>exact ok_call hE ho hc
   | tmp n=>exact ok_callV hE ho hc
   | _ =>
    intro w0 I nt U M st a w id h hd
    refine⟨false,fun ω _ p f hg hfr=>?_⟩
    simp only[evOp,ho,hc] at hg
    cases hg
  | invoke r s =>
   intro w0 I nt U M st a w id h hd
   refine⟨false,fun ω _ p f hg hfr=>?_⟩
   simp only[evOp,ho,hc] at hg
   cases hg
  | builtin b =>
   cases b with
   | len=>exact ok_len hE ho hc
   | append=>exact ok_append hE ho hc
   | min=>exact ok_min hE ho hc
   | max=>exact ok_max hE ho hc
   | delete=>exact ok_delete hE ho hc
   | clear=>exact ok_clear hE ho hc
   | _ =>
    intro w0 I nt U M st a w id h hd
    refine⟨false,fun ω _ p f hg hfr=>?_⟩
    simp only[evOp,ho,hc,evBuiltin] at hg
    cases hg
 | range t x=>exact ok_range hE ho
 | next x s=>exact ok_next hE ho
 | makeMap t r=>exact ok_makeMap hE ho
 | lookup t x i ok=>exact ok_lookup hE ho
 | mapUpdate t x i y=>exact ok_mapUpdate hE (.inl ho)
 | insert t x i y=>exact ok_mapUpdate hE (.inr ho)
 | mapEntry t x i=>exact ok_mapEntry hE ho
 | entryStore t x s y=>exact ok_entryStore hE ho
 | _ =>
  intro w0 I nt U M st a w id h hd
  refine⟨false,fun ω _ p f hg hfr=>?_⟩
  simp only[evOp,ho] at hg
  cases hg
def UsOk(us:Nat->Prop) (a:Act):Prop:=∀ n,us n->a.tmps.getD n undef=undef
theorem yielded_of{ops:Array Oper} {j:Nat} {oj:Oper} {c:Nat} {a:Act} {b:Bool} (h1:ops[j]?=some oj) (h2:oj.dst=some c) (h3:a.tmps.getD c undef=.bool b):yielded ops a.tmps j=some b:=by
 unfold yielded
 rw[h1]
 simp only[Option.bind_some,h2]
 cases hc:a.tmps[c]? with
 | none=>simp [Array.getD_eq_getD_getElem?,hc,undef] at h3
 | some v =>
  rw[Array.getD_eq_getD_getElem?,hc] at h3
  simp only[Option.getD_some] at h3
  rw[h3]
theorem yielded_undef{ops:Array Oper} {j:Nat} {oj:Oper} {a:Act} (h1:ops[j]?=some oj) (h2:∀ c,oj.dst=some c->a.tmps.getD c undef=undef):yielded ops a.tmps j=none:=by
 unfold yielded
 rw[h1]
 simp only[Option.bind_some]
 cases hd:oj.dst with
 | none=>rfl
 | some c =>
  simp only[Option.bind_some]
  have:=h2 c hd
  cases hc:a.tmps[c]? with
  | none=>rfl
  | some v =>
   rw[Array.getD_eq_getD_getElem?,hc] at this
   simp only[Option.getD_some] at this
   rw[this]
   rfl
section
variable {P:Program} {E:Env} {ops:Array Oper} {fps:List (Nat×Nat)} {Q:Exit->Act->World->Prop} {w0:World} {I:Own} {nt:Nat}
theorem gRun_wanted{U:Nat->Prop} {M:Mp} {st:St} {a:Act} {w:World} (h:Rel P w0 I nt U M st a w) {o:Oper} (hg:gRun ops o.guard st):Region.wanted o (yielded ops a.tmps)=true:=by
 unfold gRun at hg
 unfold Region.wanted
 split at hg
 ·rename_i e;rw[e]
 ·rename_i j q e
  rw[e]
  obtain⟨oj,c,s,h1,h2,h3⟩:=hg
  have:=rep_bool (h.sl c _ h3).1
  dsimp only
  rw[yielded_of h1 h2 this]
  simp
theorem gSkip_wanted{U:Nat->Prop} {M:Mp} {x:FSt} {a:Act} {w:World} (h:Rel P w0 I nt U M x.st a w) (hu:UsOk x.us a) {o:Oper} (hg:gSkip ops o.guard x):Region.wanted o (yielded ops a.tmps)=false:=by
 unfold gSkip at hg
 unfold Region.wanted
 split at hg
 ·exact hg.elim
 ·rename_i j q e
  rw[e]
  obtain⟨oj,h1,h2⟩:=hg
  dsimp only
  cases hd:oj.dst with
  | none =>
   rw[yielded_undef h1 (fun c hc=>by rw[hd] at hc;cases hc)]
   rfl
  | some c =>
   rcases h2 c hd with h3 | ⟨s,h3⟩
   ·rw[yielded_undef h1 (fun c' hc=>by rw[hd] at hc;cases hc;exact hu c h3)]
    rfl
   ·have:=rep_bool (h.sl c _ h3).1
    rw[yielded_of h1 hd this]
    cases q<;>rfl
theorem us_put{us:Nat->Prop} {a:Act} {dst:Option Tmp} {v:Value} (h:UsOk us a):UsOk (fun n=>us n/\dst≠some n) (a.put dst v):=fun n hn=>by
 rw[put_getD hn.2];exact h n hn.1
theorem us_skip{us:Nat->Prop} {a:Act} {dst:Option Tmp} (h:UsOk us a) (hd:∀ d,dst=some d->d<a.tmps.size):UsOk (fun n=>us n\/dst=some n) (a.put dst undef):=fun n hn=>by
 by_cases e:dst=some n
 ·rw[e,put_getD_same (hd n e)]
 ·rw[put_getD e]
  exact h n (hn.resolve_right e)
theorem exec_pick{o:Oper} {a:Act} {w:World} {c x y:Operand} {q:Bool} (ho:o.op=.pick c x y) (hc:a.eval c=.bool q):(execOp a.eval o).run P w=.ok (.value (if q then a.eval x else a.eval y)) w:=by
 simp only[execOp,ho,hc,asBool,Sem.run_bind,Sem.run_pure,Result.andThen_ok]
theorem skip_wp{U:Nat->Prop} {M:Mp} {x:FSt} {a:Act} {w:World} (h:Rel P w0 I nt U M x.st a w) (hu:UsOk x.us a) {i:Nat} {o:Oper} (ho:ops[i]?=some o) (hd:∀ d,o.dst=some d->d<nt) (hg:gSkip ops o.guard x) {K:Act->World->Prop}
  (hK:∀ a',Rel P w0 I nt U M (Stp.skip.app o x).st a' w->UsOk (Stp.skip.app o x).us a'->K a' w):wpOp P ops Q i K a w:=by
 unfold wpOp
 simp only[ho]
 rw[if_neg (by rw[gSkip_wanted h hu hg];simp)]
 refine hK _ ?_ (us_skip hu fun d e=>by rw[h.size];exact hd d e)
 exact(h.value (U':=U) hd (fun _ k=>k) (u:=none) (v:=undef) (fun x hx=>by cases hx) (fr:=1)).congr (fun _=>rfl) (fun _=>rfl) (fun _=>rfl)
theorem pick_wp(hE:EnvOk P E) {U:Nat->Prop} {M:Mp} {x:FSt} {a:Act} {w:World} (h:Rel P w0 I nt U M x.st a w) (hu:UsOk x.us a) {i:Nat} {o:Oper} (ho:ops[i]?=some o) (hd:∀ d,o.dst=some d->d<nt) (hg:gRun ops o.guard x.st) {v:Vl} (hp:PickOk E o v x.st) {K:Act->World->Prop}
  (hK:∀ a',Rel P w0 I nt U M ((Stp.pick v).app o x).st a' w->UsOk ((Stp.pick v).app o x).us a'->K a' w):wpOp P ops Q i K a w:=by
 unfold wpOp
 simp only[ho]
 rw[if_pos (gRun_wanted h hg)]
 obtain⟨d,c,p,q,b,s,τ,y,u,e1,e2,e3,e4,e5,e6,rfl⟩:=hp
 obtain⟨r,su⟩:=opd_rep hE h e5
 have hc:=rep_bool (h.sl c _ e3).1
 have hx:=exec_pick (P:=P) (w:=w) (x:=p) (y:=q) e2 (show a.eval (.tmp c)=.bool b from hc)
 have hv:(if b then a.eval p else a.eval q)=a.eval (sel b p q):=by cases b<;>rfl
 rw[hv] at hx
 refine .inl ?_
 unfold Oper.wp
 rw[hx]
 refine hK _ ?_ (us_put hu)
 obtain⟨hpl,hc2⟩:=castV_eq e6
 obtain⟨e7,rfl⟩:=castTo_eq hc2
 obtain⟨tu,vu,shu⟩:=u
 dsimp only at e7 hpl r
 subst e7
 have r2:RepV P tu w (own x.st M) M vu .o (a.eval (sel b p q)):=noM_forget r hpl M
 exact(h.value (U':=U) hd (fun _ k=>k) (u:=some ⟨tu,vu,.o⟩) (v:=a.eval (sel b p q)) (fun x hx=>by cases hx;exact⟨r2,trivial⟩) (fr:=1)).congr (fun _=>rfl) (fun _=>rfl) (fun _=>rfl)
def wpL(P:Program) (ops:Array Oper) (Q:Exit->Act->World->Prop):List Nat->(Act->World->Prop)->Act->World->Prop
 | [],K,a,w=>K a w
 | i::l,K,a,w=>wpOp P ops Q i (wpL P ops Q l K) a w
theorem wpOps_of:∀ (l:List Nat) (a:Act) (w:World),wpL P ops Q l (Q .normal) a w->wpOps P ops Q l a w
 | [],a,w,h=>h
 | i::l,a,w,h=>by
  rw[wpOps_cons]
  exact wpOp_mono (fun a w=>wpOps_of l a w) h
theorem AR_wp(hE:EnvOk P E) (hQ:EqsOk P E) {Fin:Nat->FSt->Prop} {K:Act->World->Prop} (hdst:∀ (i:Nat) o d,ops[i]?=some o->o.dst=some d->d<nt) :
  ∀ (l:List Nat) (lo:Nat) (x:FSt) (U:Nat->Prop) (M:Mp) (a:Act) (w:World),AR E ops fps Fin l lo x->Rel P w0 I nt U M x.st a w->UsOk x.us a->(∀ k,lo<=k->¬ U k) ->
  (∀ lo' y U' M' a' w',Fin lo' y->(∀ k,U k->U' k)->Agree U M M'->Rel P w0 I nt U' M' y.st a' w'->(∀ k,lo'<=k->¬ U' k)->K a' w')->wpL P ops Q l K a w
 | [],lo,x,U,M,a,w,h,hr,hu,hf,hK=>hK lo x U M a w h (fun _ k=>k) (Agree.refl _ _) hr hf
 | i::l,lo,x,U,M,a,w,⟨o,ho,h⟩,hr,hu,hf,hK=>by
  have hd:∀ d,o.dst=some d->d<nt:=fun d e=>hdst i o d ho e
  rcases h with⟨h1,h2⟩ | ⟨v,h1,h2,h3⟩ | ⟨h1,id,m,h2,h3⟩
  ·exact skip_wp hr hu ho hd h1 fun a' r u=>AR_wp hE hQ hdst l lo _ U M a' w h2 r u hf hK
  ·exact pick_wp hE hr hu ho hd h1 h2 fun a' r u=>AR_wp hE hQ hdst l lo _ U M a' w h3 r u hf hK
  ·unfold wpL wpOp
   simp only[ho]
   rw[if_pos (gRun_wanted hr h1)]
   obtain⟨ω0,hop⟩:=ok_any hE hQ o m w0 I nt U M x.st a w id hr hd
   obtain⟨p,f,k1,k2,k3⟩:=h3 ω0
   refine .inl ((hop ω0 (fun _=>rfl) p f k1 (fun k e1 e2=>hf k (by omega))).wp fun v w' ⟨M',hA,r⟩=>?_)
   refine AR_wp hE hQ hdst l (id+p.fr) _ _ M' _ w' k3 r (us_put hu) (fun k hk hk'=>?_) (fun lo' y U' M2 a' w2 e1 e2 e3 e4 e5=>?_)
   ·rcases hk' with hk' | ⟨_,hk'⟩
    ·exact hf k (by omega) hk'
    ·omega
   ·exact hK lo' y U' M2 a' w2 e1 (fun k hk=>e2 k (.inl hk)) ⟨e3.1.trans hA.1,fun k hk=>by
     obtain⟨b1,b2,b3⟩:=e3.2 k (.inl hk)
     obtain⟨c1,c2,c3⟩:=hA.2 k hk
     exact⟨b1.trans c1,b2.trans c2,b3.trans c3⟩⟩ e4 e5
theorem Rel.le{U:Nat->Prop} {M:Mp} {s t:St} {a:Act} {w:World} (h:Rel P w0 I nt U M t a w) (k:Le s t):Rel P w0 I nt U M s a w:=by
 have hreg:∀ l b o,reg s M l b o->reg t M l b o:=by
  intro l b o hl
  rcases l with(_ | n) | n | n
  ·exact hl
  ·exact hl.elim
  ·obtain⟨v,h1,h2⟩:=hl
   exact⟨v,by rw[← k.bx];exact h1,h2⟩
  ·exact⟨k.tk n hl.1,hl.2⟩
 exact h.upd (fun _ k=>k) (Agree.refl _ _) (Ext.refl _ _) (fun b o _ ⟨l,hl⟩=>⟨l,hreg l b o hl⟩) (fun n v hn=>.inl ⟨k.sl n v hn,rfl⟩) (fun id v hv=>.inl ⟨by rw[← k.bx];exact hv,fun _ _ _=>rfl⟩) (Ext.refl _ _) (fun b o _ ⟨l,h0,hl⟩=>⟨l,h0,hreg l b o hl⟩) (fun id z v hv=>.inl (by rw[← k.bx];exact hv))
  (fun n hn=>h.tk n (k.tk n hn)) (fun b o ⟨l,hl⟩=>h.live b o ⟨l,hreg l b o hl⟩) (fun l l' b o h1 h2=>h.dis l l' b o (hreg _ _ _ h1) (hreg _ _ _ h2)) h.keep h.size h.defs (fun _ _ _ _=>rfl) (fun id v hv _=>by rw[← k.bx];exact hv)
end
theorem eqNats_eq:∀ {l r:List Nat},eqNats l r=true->l=r
 | [],[],_=>rfl
 | a::l,b::r,h=>by
  simp only[eqNats,Bool.and_eq_true] at h
  rw[Nat.eq_of_beq_eq_true h.1,eqNats_eq h.2]
 | [],_::_,h=>by cases h
 | _::_,[],h=>by cases h
theorem upTo_range:∀ (n i:Nat),upTo n i=List.range' i n
 | 0,i=>rfl
 | n+1,i=>by rw[upTo,upTo_range n (i+1)];rfl
theorem region_seq{P:Program} {E:Env} (hE:EnvOk P E) (hQ:EqsOk P E) {ops:Array Oper} {Q:Exit->Act->World->Prop} {w0:World} {I:Own} {nt:Nat} {id:Nat} {its:Its} {R:Type} {st:St} {K:St->Option R} {r:R} {U:Nat->Prop} {M:Mp} {a:Act} {w:World}
  (h:evIts E ops [] its none 0 st K=some r) (hok:regOk ops its=true) (hdst:∀ (i:Nat) o d,ops[i]?=some o->o.dst=some d->d<nt) (hr:Rel P w0 I nt U M st a w) (hf:∀ k,st.cnt<=k->¬ U k)
  (hK:∀ st' U' M' a' w',K st'=some r->WrOk st st'->(∀ k,U k->U' k)->Agree U M M'->Rel P w0 I nt U' M' st' a' w'->(∀ k,st'.cnt<=k->¬ U' k)->Q .normal a' w'):(Code.region id ops false).wp P Q a w:=by
 simp only[regOk,Bool.and_eq_true] at hok
 obtain⟨⟨h1,h2⟩,h3⟩:=hok
 have hfl:=eqNats_eq h2
 have hn:its.flat.Nodup:=by rw[hfl,upTo_range];exact List.nodup_range'
 have:=evIts_AR (nodupD_of h3) its none [] 0 st K r ⟨st,fun _=>False⟩ st.cnt h (Nat.zero_le _) h1 hn (fun k hk=>by simp at hk) trivial (Le.refl _) (Nat.le_refl _)
 refine wp_region (wpOps_of _ _ _ ?_)
 rw[hfl,upTo_range,← List.range_eq_range'] at this
 refine AR_wp hE hQ hdst _ _ _ U M a w this hr (fun n hn=>hn.elim) hf ?_
 intro lo' y U' M' a' w' ⟨st',k1,k2,_,k3,_,_,k7⟩ e1 e2 e3 e4
 exact hK st' U' M' a' w' k3 k7 e1 e2 (e3.le k1) fun k hk=>e4 k (by omega)
end Go.VX
/- VX, part 44: steps of a region in another order. -/
set_option linter.unusedVariables false
set_option linter.unusedSimpArgs false
namespace Go.VX
def AgL(x y:FSt):Loc->Prop
 | .s n=>look x.st.sl n=look y.st.sl n/\(x.us n↔y.us n)
 | .b n=>look x.st.bx n=look y.st.bx n
 | .t n=>look x.st.tk n=look y.st.tk n
def Eqv(x y:FSt):Prop:=∀ l,AgL x y l
theorem AgL.refl(x:FSt):∀ l,AgL x x l
 | .s _=>⟨rfl,Iff.rfl⟩
 | .b _=>rfl
 | .t _=>rfl
theorem AgL.symm{x y:FSt}:∀ {l},AgL x y l->AgL y x l
 | .s _,h=>⟨h.1.symm,h.2.symm⟩
 | .b _,h=>Eq.symm h
 | .t _,h=>Eq.symm h
theorem AgL.trans{x y z:FSt}:∀ {l},AgL x y l->AgL y z l->AgL x z l
 | .s _,h,k=>⟨h.1.trans k.1,h.2.trans k.2⟩
 | .b _,h,k=>Eq.trans h k
 | .t _,h,k=>Eq.trans h k
theorem Goes.agr{x y:FSt} {ω:Bool}:∀ {m:RM} {p:Patch} {f:List Loc},Goes x.st ω m p f->(∀ l∈f,AgL x y l)->Goes y.st ω m p f:=by
 intro m p f g
 induction g with
 | ret p=>intro _;exact .ret p
 | @rdS n k v p f hv _ ih=>intro h;exact .rdS (by rw[← (h (.s n) List.mem_cons_self).1];exact hv) (ih fun l hl=>h l (List.mem_cons_of_mem _ hl))
 | @rdBw n k v p f hv _ ih=>intro h;exact .rdBw (by rw[← (show look x.st.bx n=look y.st.bx n from h (.b n) List.mem_cons_self)];exact hv) (ih fun l hl=>h l (List.mem_cons_of_mem _ hl))
 | @rdBo n k z v p f hv _ ih=>intro h;exact .rdBo (by rw[← (show look x.st.bx n=look y.st.bx n from h (.b n) List.mem_cons_self)];exact hv) (ih fun l hl=>h l (List.mem_cons_of_mem _ hl))
 | @rdW n k v p f hv _ ih=>intro h;exact .rdW (by rw[← (show look x.st.bx n=look y.st.bx n from h (.b n) List.mem_cons_self)];exact hv) (ih fun l hl=>h l (List.mem_cons_of_mem _ hl))
 | @rdFw n k v p f hv _ ih=>intro h;exact .rdFw (by rw[← (show look x.st.bx n=look y.st.bx n from h (.b n) List.mem_cons_self)];exact hv) (ih fun l hl=>h l (List.mem_cons_of_mem _ hl))
 | @rdFo n k v p f hv _ ih=>intro h;exact .rdFo (by rw[← (show look x.st.bx n=look y.st.bx n from h (.b n) List.mem_cons_self)];exact hv) (ih fun l hl=>h l (List.mem_cons_of_mem _ hl))
 | @rdT n k p f hv _ ih=>intro h;exact .rdT (by rw[← (show look x.st.tk n=look y.st.tk n from h (.t n) List.mem_cons_self)];exact hv) (ih fun l hl=>h l (List.mem_cons_of_mem _ hl))
 | eff hx _ ih=>intro h;exact .eff hx (ih h)
 | amb _ ih=>intro h;exact .amb (ih h)
theorem look_putL_out{α:Type} {ds l:List (Nat×α)} {n:Nat} (h:∀ y,(n,y) ∉ ds):look (putL ds l) n=look l n:=by
 rw[look_putL_eq]
 cases hp:look (putL ds []) n with
 | none=>rfl
 | some x =>
  rcases look_putL hp with hm | ⟨_,hm⟩
  ·exact(h _ hm).elim
  ·cases hm
theorem app_out{o:Oper} {s:Stp} {x:FSt} {w:Nat} (hd:∀ d,o.dst=some d->w.testBit (3*d)=true) (hp:∀ id m p f,s=.run id m p f->inMask w (patchLocs o.dst p)=true) {l:Loc} (hl:w.testBit l.code=false):AgL (s.app o x) x l:=by
 have hS:∀ n,w.testBit (3*n)=false->o.dst≠some n:=fun n hn e=>by rw[hd n e] at hn;cases hn
 cases l with
 | s n =>
  have:=hS n hl
  refine⟨app_sl this,?_⟩
  cases s with
  | skip=>exact⟨fun h=>h.resolve_right this,.inl⟩
  | pick v=>exact⟨fun h=>h.1,fun h=>⟨h,this⟩⟩
  | run id m p f=>exact⟨fun h=>h.1,fun h=>⟨h,this⟩⟩
 | b n =>
  cases s with
  | skip=>rfl
  | pick v=>rfl
  | run id m p f =>
   refine look_putL_out fun y hy=>?_
   have:=inMask_all.1 (hp id m p f rfl) (.b n) (by simp only[patchLocs,List.mem_append,List.mem_map];exact .inl (.inr ⟨_,hy,rfl⟩))
   rw[hl] at this
   cases this
 | t n =>
  cases s with
  | skip=>rfl
  | pick v=>rfl
  | run id m p f =>
   refine look_putL_out fun y hy=>?_
   have:=inMask_all.1 (hp id m p f rfl) (.t n) (by simp only[patchLocs,List.mem_append,List.mem_map];exact .inr ⟨_,hy,rfl⟩)
   rw[hl] at this
   cases this
theorem app_congr{o:Oper} {s:Stp} {x y:FSt} {l:Loc} (h:AgL x y l):AgL (s.app o x) (s.app o y) l:=by
 cases l with
 | s n =>
  obtain⟨h1,h2⟩:=h
  cases s<;>refine⟨by show look (St.patch _ _ _).sl n=look (St.patch _ _ _).sl n;rw[patch_sl,patch_sl,h1],?_⟩
  ·exact or_congr h2 Iff.rfl
  ·exact and_congr h2 Iff.rfl
  ·exact and_congr h2 Iff.rfl
 | b n=>cases s<;>exact look_putL_congr h
 | t n=>cases s<;>exact look_putL_congr h
def okF(E:Env) (ops:Array Oper) (fps:List (Nat×Nat)) (i:Nat) (o:Oper) (x:FSt):Stp->Prop
 | .skip=>gSkip ops o.guard x
 | .pick v=>gRun ops o.guard x.st/\PickOk E o v x.st
 | .run id m p f=>gRun ops o.guard x.st/\Goes x.st false (evOp E id m o) p f/\fpOk fps i o.dst p f=true
structure Fp (ops:Array Oper) (fps:List (Nat×Nat)) (i:Nat) (o:Oper) (r w:Nat):Prop where
 at_:fps[i]?=some (r,w)
 edge:∀ e∈o.after,Region.binds .any e=true->e.on<i
 dst:∀ d,o.dst=some d->w.testBit (3*d)=true
 guard:∀ j q oj c,o.guard=some (j,q)->ops[j]?=some oj->oj.dst=some c->r.testBit (3*c)=true
 pick:∀ c a b,o.op=.pick c a b->tmpIn r c=true/\tmpIn r a=true/\tmpIn r b=true
 nil:nilCmp o=false
theorem Fp.run{ops:Array Oper} {fps:List (Nat×Nat)} {i:Nat} {o:Oper} {r w:Nat} (F:Fp ops fps i o r w) {p:Patch} {f:List Loc} (h:fpOk fps i o.dst p f=true):inMask r f=true/\inMask w (patchLocs o.dst p)=true:=by
 cases fps with
 | nil=>cases F.at_
 | cons a fps =>
  simp only[fpOk,F.at_,Bool.and_eq_true] at h
  exact h
theorem okF_agr{E:Env} {ops:Array Oper} {fps:List (Nat×Nat)} {i:Nat} {o:Oper} {r w:Nat} (F:Fp ops fps i o r w) {x y:FSt} (h:∀ l,r.testBit l.code=true->AgL x y l) {s:Stp} (k:okF E ops fps i o x s):okF E ops fps i o y s:=by
 have hS:∀ n,r.testBit (3*n)=true->look x.st.sl n=look y.st.sl n/\(x.us n↔y.us n):=fun n hn=>h (.s n) hn
 have hg:gRun ops o.guard x.st->gRun ops o.guard y.st:=by
  intro hg
  unfold gRun at hg ⊢
  split at hg
  ·trivial
  ·rename_i j q e
   obtain⟨oj,c,s,h1,h2,h3⟩:=hg
   exact⟨oj,c,s,h1,h2,by rw[← (hS c (F.guard j q oj c e h1 h2)).1];exact h3⟩
 cases s with
 | skip =>
  have k:gSkip ops o.guard x:=k
  show gSkip ops o.guard y
  unfold gSkip at k ⊢
  split at k
  ·exact k.elim
  ·rename_i j q e
   obtain⟨oj,h1,h2⟩:=k
   refine⟨oj,h1,fun c hc=>?_⟩
   obtain⟨k1,k2⟩:=hS c (F.guard j q oj c e h1 hc)
   rcases h2 c hc with h3 | ⟨s,h3⟩
   ·exact .inl (k2.1 h3)
   ·exact .inr ⟨s,by rw[← k1];exact h3⟩
 | pick v =>
  obtain⟨k1,d,c,a,b,q,s,τ,z,u,e1,e2,e3,e4,e5,e6,e7⟩:=k
  obtain⟨f1,f2,f3⟩:=F.pick _ _ _ e2
  refine⟨hg k1,d,c,a,b,q,s,τ,z,u,e1,e2,by rw[← (hS c f1).1];exact e3,e4,e5.le fun n hn v hv=>?_,e6,e7⟩
  have:tmpIn r (.tmp n)=true:=by
   rw[← hn]
   cases q
   ·exact f3
   ·exact f2
  rw[← (hS n this).1]
  exact hv
 | run id m p f =>
  obtain⟨k1,k2,k3⟩:=k
  exact⟨hg k1,k2.agr fun l hl=>h l (inMask_all.1 (F.run k3).1 l hl),k3⟩
theorem okF_wr{E:Env} {ops:Array Oper} {fps:List (Nat×Nat)} {i:Nat} {o:Oper} {r w:Nat} (F:Fp ops fps i o r w) {x x':FSt} {s:Stp} (k:okF E ops fps i o x' s) {l:Loc} (hl:w.testBit l.code=false):AgL (s.app o x) x l :=
 app_out F.dst (fun id m p f e=>by subst e;exact(F.run k.2.2).2) hl
theorem and_zero{a b:Nat} (h:Nat.beq (a &&& b) 0=true) (n:Nat) (ha:a.testBit n=true):b.testBit n=false:=by
 have h:=Nat.eq_of_beq_eq_true h
 have:=congrArg (fun z=>z.testBit n) h
 simp only[Nat.testBit_and,ha,Bool.true_and,Nat.zero_testBit] at this
 exact this
theorem swap{E:Env} {ops:Array Oper} {fps:List (Nat×Nat)} {i i':Nat} {o o':Oper} {r w r' w':Nat} (F:Fp ops fps i o r w) (F':Fp ops fps i' o' r' w') (hp:pairOk (r,w) (r',w')=true) {x:FSt} {s s':Stp} (h:okF E ops fps i o x s) (h':okF E ops fps i' o' (s.app o x) s') :
  okF E ops fps i' o' x s'/\okF E ops fps i o (s'.app o' x) s/\Eqv (s'.app o' (s.app o x)) (s.app o (s'.app o' x)):=by
 simp only[pairOk,Bool.and_eq_true] at hp
 obtain⟨⟨p1,p2⟩,p3⟩:=hp
 have hw:∀ l:Loc,w.testBit l.code=true->w'.testBit l.code=false:=fun l hl=>and_zero p3 _ hl
 have h1:∀ l:Loc,r'.testBit l.code=true->w.testBit l.code=false:=fun l hl=>by
  cases hb:w.testBit l.code
  ·rfl
  ·have:=and_zero p1 _ hb;rw[hl] at this;cases this
 have h2:∀ l:Loc,r.testBit l.code=true->w'.testBit l.code=false:=fun l hl=>and_zero p2 _ hl
 refine⟨okF_agr F' (fun l hl=>okF_wr F h (h1 l hl)) h',okF_agr F (fun l hl=>(okF_wr F' h' (h2 l hl)).symm) h,fun l=>?_⟩
 cases hb:w.testBit l.code with
 | false=>exact(app_congr (okF_wr F h hb)).trans (okF_wr F h hb).symm
 | true=>exact(okF_wr F' h' (hw l hb)).trans (app_congr (okF_wr F' h' (hw l hb)).symm)
def runOk(E:Env) (ops:Array Oper) (fps:List (Nat×Nat)):List (Nat×Stp)->FSt->Prop
 | [],x=>True
 | (i,s)::L,x=>∃ o,ops[i]?=some o/\okF E ops fps i o x s/\runOk E ops fps L (s.app o x)
def appI(ops:Array Oper) (i:Nat) (s:Stp) (x:FSt):FSt:=match ops[i]? with
 | some o=>s.app o x
 | none=>x
def fin(ops:Array Oper):List (Nat×Stp)->FSt->FSt
 | [],x=>x
 | (i,s)::L,x=>fin ops L (appI ops i s x)
theorem appI_eq{ops:Array Oper} {i:Nat} {s:Stp} {x:FSt} {o:Oper} (h:ops[i]?=some o):appI ops i s x=s.app o x:=by simp [appI,h]
def FpAll(ops:Array Oper) (fps:List (Nat×Nat)):Prop:=∀ (i:Nat) o,ops[i]?=some o->∃ r w,Fp ops fps i o r w
theorem run_congr{E:Env} {ops:Array Oper} {fps:List (Nat×Nat)} (hF:FpAll ops fps):∀ (L:List (Nat×Stp)) {x y:FSt},Eqv x y->runOk E ops fps L x->runOk E ops fps L y/\Eqv (fin ops L x) (fin ops L y)
 | [],x,y,h,_=>⟨trivial,h⟩
 | (i,s)::L,x,y,h,⟨o,ho,h1,h2⟩=>by
  obtain⟨r,w,F⟩:=hF i o ho
  obtain⟨k1,k2⟩:=run_congr hF L (fun l=>app_congr (o:=o) (s:=s) (h l)) h2
  exact⟨⟨o,ho,okF_agr F (fun l _=>h l) h1,k1⟩,by simpa only[fin,appI_eq ho] using k2⟩
theorem move_front{E:Env} {ops:Array Oper} {fps:List (Nat×Nat)} (hF:FpAll ops fps) {i:Nat} {s:Stp} {B:List (Nat×Stp)}:∀ (A:List (Nat×Stp)) (x:FSt),runOk E ops fps (A++(i,s)::B) x ->
  (∀ q∈A,∀ f f',fps[q.1]?=some f->fps[i]?=some f'->pairOk f f'=true)->runOk E ops fps ((i,s)::(A++B)) x/\Eqv (fin ops (A++(i,s)::B) x) (fin ops ((i,s)::(A++B)) x)
 | [],x,h,_=>⟨h,fun l=>AgL.refl _ l⟩
 | (i0,s0)::A,x,⟨o0,ho0,h1,h2⟩,hp=>by
  obtain⟨⟨o,ho,k1,k2⟩,k3⟩:=move_front hF A _ h2 fun q hq=>hp q (List.mem_cons_of_mem _ hq)
  obtain⟨r0,w0,F0⟩:=hF i0 o0 ho0
  obtain⟨r,w,F⟩:=hF i o ho
  obtain⟨e1,e2,e3⟩:=swap F0 F (hp _ List.mem_cons_self _ _ F0.at_ F.at_) h1 k1
  obtain⟨g1,g2⟩:=run_congr hF (A++B) e3 k2
  refine⟨⟨o,ho,e1,o0,ho0,e2,g1⟩,fun l=>?_⟩
  have k3:=k3 l
  simp only[fin,List.cons_append,appI_eq ho,appI_eq ho0] at k3 ⊢
  exact k3.trans (g2 l)
end Go.VX
/- VX, part 45: a region that leaves its order open. -/
set_option linter.unusedVariables false
set_option linter.unusedSimpArgs false
namespace Go.VX
def rangeOf:Stp->Nat->Prop
 | .run id _ p _,k=>id<=k/\k<id+p.fr
 | _,_=>False
def Apart(a b:Nat×Stp):Prop:=∀ k,rangeOf a.2 k->¬ rangeOf b.2 k
theorem Apart.symm{a b:Nat×Stp} (h:Apart a b):Apart b a:=fun k h1 h2=>h k h2 h1
theorem AR_run{E:Env} {ops:Array Oper} {fps:List (Nat×Nat)} {Fin:Nat->FSt->Prop}:∀ (l:List Nat) (lo:Nat) (x:FSt),AR E ops fps Fin l lo x ->
  ∃ L hi,L.map (·.1)=l/\runOk E ops fps L x/\Fin hi (fin ops L x)/\lo<=hi/\(∀ q∈L,∀ k,rangeOf q.2 k->lo<=k/\k<hi)/\L.Pairwise Apart
 | [],lo,x,h=>⟨[],lo,rfl,trivial,h,Nat.le_refl _,fun q hq=>by simp at hq,List.Pairwise.nil⟩
 | i::l,lo,x,⟨o,ho,h⟩=>by
  rcases h with⟨h1,h2⟩ | ⟨v,h1,h2,h3⟩ | ⟨h1,id,m,h2,h3⟩
  ·obtain⟨L,hi,e1,e2,e3,e4,e5,e6⟩:=AR_run l _ _ h2
   refine⟨(i,.skip)::L,hi,by rw[List.map_cons,e1],⟨o,ho,h1,e2⟩,by simpa only[fin,appI_eq ho] using e3,e4,fun q hq k hk=>?_,List.pairwise_cons.2 ⟨fun q hq k hk=>hk.elim,e6⟩⟩
   rcases List.mem_cons.1 hq with rfl | hq
   ·exact hk.elim
   ·exact e5 q hq k hk
  ·obtain⟨L,hi,e1,e2,e3,e4,e5,e6⟩:=AR_run l _ _ h3
   refine⟨(i,.pick v)::L,hi,by rw[List.map_cons,e1],⟨o,ho,⟨h1,h2⟩,e2⟩,by simpa only[fin,appI_eq ho] using e3,e4,fun q hq k hk=>?_,List.pairwise_cons.2 ⟨fun q hq k hk=>hk.elim,e6⟩⟩
   rcases List.mem_cons.1 hq with rfl | hq
   ·exact hk.elim
   ·exact e5 q hq k hk
  ·obtain⟨p,f,k1,k2,k3⟩:=h3 false
   obtain⟨L,hi,e1,e2,e3,e4,e5,e6⟩:=AR_run l _ _ k3
   refine⟨(i,.run id m p f)::L,hi,by rw[List.map_cons,e1],⟨o,ho,⟨h1,k1,k2⟩,e2⟩,by simpa only[fin,appI_eq ho] using e3,by omega,fun q hq k hk=>?_,List.pairwise_cons.2 ⟨fun q hq k hk hk2=>?_,e6⟩⟩
   ·rcases List.mem_cons.1 hq with rfl | hq
    ·exact⟨by have:=hk.1;omega,by have:=hk.2;omega⟩
    ·have:=e5 q hq k hk
     exact⟨by omega,this.2⟩
   ·have:=e5 q hq k hk2
    have:=hk.2
    omega
def An(ops:List Oper) (i y:Nat):Prop:=((ancs ops).getD i 0).testBit y=true
theorem ancs_prefix:∀ (ops:List Oper) (acc:List Nat) (i:Nat),i<acc.length->(ancs.go ops acc).getD i 0=acc.getD i 0
 | [],acc,i,h=>rfl
 | o::ops,acc,i,h=>by
  rw[ancs.go,ancs_prefix ops _ i (by simp;omega)]
  simp [List.getD_eq_getElem?_getD,List.getElem?_append,h]
theorem ancs_length:∀ (ops:List Oper) (acc:List Nat),(ancs.go ops acc).length=acc.length+ops.length
 | [],acc=>by simp [ancs.go]
 | o::ops,acc=>by rw[ancs.go,ancs_length ops];simp;omega
theorem foldl_bits{acc:List Nat} {y:Nat}:∀ (l:List Edge) (m:Nat),(l.foldl (ancStep acc) m).testBit y=true->m.testBit y=true\/∃ e∈l,Region.binds .any e=true/\(y=e.on\/(acc.getD e.on 0).testBit y=true)
 | [],m,h=>.inl h
 | e::l,m,h=>by
  rw[List.foldl_cons] at h
  rcases foldl_bits l _ h with h | ⟨e',h1,h2⟩
  ·unfold ancStep at h
   cases hb:Region.binds .any e with
   | false=>rw[hb] at h;exact .inl h
   | true =>
    rw[hb] at h
    dsimp only at h
    rw[Nat.testBit_or,Nat.testBit_or,Bool.or_eq_true,Bool.or_eq_true] at h
    rcases h with(h | h) | h
    ·exact .inl h
    ·refine .inr ⟨e,List.mem_cons_self,hb,.inl ?_⟩
     rw[Nat.shiftLeft_eq,Nat.one_mul,Nat.testBit_two_pow] at h
     have:=of_decide_eq_true h;exact this.symm
    ·exact .inr ⟨e,List.mem_cons_self,hb,.inr h⟩
  ·exact .inr ⟨e',List.mem_cons_of_mem _ h1,h2⟩
theorem ancs_step:∀ (ops:List Oper) (acc:List Nat) (k:Nat) (o:Oper) (y:Nat),ops[k]?=some o->(∀ e∈o.after,Region.binds .any e=true->e.on<acc.length+k)->((ancs.go ops acc).getD (acc.length+k) 0).testBit y=true ->
  ∃ e∈o.after,Region.binds .any e=true/\(y=e.on\/((ancs.go ops acc).getD e.on 0).testBit y=true)
 | [],acc,k,o,y,h,_,_=>by simp at h
 | o0::ops,acc,0,o,y,h,he,hb=>by
  simp only[List.getElem?_cons_zero,Option.some.injEq] at h
  subst h
  rw[ancs.go] at hb ⊢
  rw[ancs_prefix ops _ _ (by simp)] at hb
  rw[Nat.add_zero,List.getD_eq_getElem?_getD,List.getElem?_append_right (Nat.le_refl _),Nat.sub_self,List.getElem?_cons_zero,Option.getD_some] at hb
  rcases foldl_bits _ _ hb with hb | ⟨e,h1,h2,h3⟩
  ·simp at hb
  ·have h1':e∈o0.after:=by simpa using h1
   refine⟨e,h1',h2,h3.imp (fun h=>h) fun h3=>?_⟩
   have hlt:=he e h1' h2
   rw[ancs_prefix ops _ _ (by simp;omega)]
   simp only[List.getD_eq_getElem?_getD] at h3 ⊢
   rw[List.getElem?_append_left (by omega)]
   exact h3
 | o0::ops,acc,k+1,o,y,h,he,hb=>by
  rw[ancs.go] at hb ⊢
  have e0:(acc++[o0.after.toList.foldl (ancStep acc) 0]).length+k=acc.length+(k+1):=by simp;omega
  have:=ancs_step ops (acc++[o0.after.toList.foldl (ancStep acc) 0]) k o y (by simpa using h) (fun e h1 h2=>by have:=he e h1 h2;simp;omega) (by
     rw[e0]
     exact hb)
  exact this
theorem An.step{ops:List Oper} {i y:Nat} {o:Oper} (h:An ops i y) (ho:ops[i]?=some o) (he:∀ e∈o.after,Region.binds .any e=true->e.on<i):∃ e∈o.after,Region.binds .any e=true/\(y=e.on\/An ops e.on y):=by
 have:=ancs_step ops [] i o y ho (by simpa using he) (by simpa [An,ancs] using h)
 exact this
theorem drawOk_inner(aj:Nat) (fj:Nat×Nat):∀ (l:List (Nat×Nat)) (i n t:Nat) (fi:Nat×Nat),drawOk.inner aj fj l i n=true->t<n->l[t]?=some fi->aj.testBit (i+t)=true\/pairOk fi fj=true
 | [],i,n,t,fi,h,ht,hl=>by simp at hl
 | f0::l,i,0,t,fi,h,ht,hl=>by omega
 | f0::l,i,n+1,t,fi,h,ht,hl=>by
  simp only[drawOk.inner,Bool.and_eq_true,Bool.or_eq_true] at h
  cases t with
  | zero =>
   simp only[List.getElem?_cons_zero,Option.some.injEq] at hl
   subst hl
   simpa using h.1
  | succ t =>
   have:=drawOk_inner aj fj l (i+1) n t fi h.2 (by omega) (by simpa using hl)
   rwa [show i+1+t=i+(t+1) by omega] at this
theorem drawOk_go:∀ (aq:List Nat) (fs:List (Nat×Nat)) (j:Nat) (all:List (Nat×Nat)) (k:Nat) (ak:Nat) (fk:Nat×Nat),drawOk.go aq fs j all=true->aq[k]?=some ak->fs[k]?=some fk->drawOk.inner ak fk all 0 (j+k)=true
 | [],fs,j,all,k,ak,fk,h,ha,hf=>by simp at ha
 | a::aq,[],j,all,k,ak,fk,h,ha,hf=>by simp at hf
 | a::aq,f::fs,j,all,k,ak,fk,h,ha,hf=>by
  simp only[drawOk.go,Bool.and_eq_true] at h
  cases k with
  | zero =>
   simp only[List.getElem?_cons_zero,Option.some.injEq] at ha hf
   subst ha hf
   exact h.1
  | succ k =>
   have:=drawOk_go aq fs (j+1) all k ak fk h.2 (by simpa using ha) (by simpa using hf)
   rwa [show j+1+k=j+(k+1) by omega] at this
theorem statOk_spec(all:Array Oper):∀ (os:List Oper) (fs:List (Nat×Nat)) (i k:Nat) (o:Oper),statOk all os fs i=true->os[k]?=some o->∃ r w,fs[k]?=some (r,w)/\(∀ e∈o.after,Region.binds .any e=true->e.on<i+k)/\(∀ d,o.dst=some d->w.testBit (3*d)=true) /\
   (∀ j q oj c,o.guard=some (j,q)->all[j]?=some oj->oj.dst=some c->r.testBit (3*c)=true)/\(∀ c a b,o.op=.pick c a b->tmpIn r c=true/\tmpIn r a=true/\tmpIn r b=true)/\nilCmp o=false
 | [],fs,i,k,o,h,ho=>by simp at ho
 | o0::os,[],i,k,o,h,ho=>by cases h
 | o0::os,(r,w)::fs,i,k,o,h,ho=>by
  simp only[statOk,Bool.and_eq_true] at h
  obtain⟨⟨⟨⟨h1,h2⟩,h3⟩,h4⟩,h5⟩:=h
  cases k with
  | zero =>
   simp only[List.getElem?_cons_zero,Option.some.injEq] at ho
   subst ho
   refine⟨r,w,rfl,fun e he hb=>?_,fun d hd=>?_,fun j q oj c e1 e2 e3=>?_,fun c a b e=>?_,?_⟩
   ·have:=List.all_eq_true.1 h1 e (by simpa using he)
    rw[hb] at this
    rw[Bool.not_true,Bool.false_or] at this
    exact Nat.lt_of_lt_of_le (Nat.le_of_ble_eq_true this) (Nat.le_add_right _ _)
   ·rw[hd] at h2;exact h2
   ·rw[e1] at h3
    dsimp only at h3
    rw[e2] at h3
    dsimp only at h3
    rw[e3] at h3
    exact h3
   ·rw[e] at h4
    simp only[Bool.and_eq_true] at h4
    exact⟨h4.1.1,h4.1.2,h4.2⟩
   ·unfold nilCmp
    split
    ·rename_i hop
     rw[hop] at h4
     simpa using h4
    ·rfl
  | succ k =>
   obtain⟨r',w',g1,g2,g3,g4,g5,g6⟩:=statOk_spec all os fs (i+1) k o h5 (by simpa using ho)
   exact⟨r',w',by simpa using g1,fun e he hb=>by have:=g2 e he hb;omega,g3,g4,g5,g6⟩
structure DrawOk (ops:Array Oper) (fps:List (Nat×Nat)):Prop where
 fp:FpAll ops fps
 pair:∀ (i i':Nat) f f' o,ops[i]?=some o->i'<i->fps[i']?=some f'->fps[i]?=some f->An ops.toList i i'\/pairOk f' f=true
theorem drawOk_spec{ops:Array Oper} {fps:List (Nat×Nat)} (h:drawOk ops.toList fps=true):DrawOk ops fps:=by
 simp only[drawOk,Bool.and_eq_true] at h
 obtain⟨⟨h1,h2⟩,h3⟩:=h
 refine⟨fun i o ho=>?_,fun i i' f f' o ho hlt hf' hf=>?_⟩
 ·obtain⟨r,w,g1,g2,g3,g4,g5,g6⟩:=statOk_spec ops.toList.toArray ops.toList fps 0 i o h3 (by simpa using ho)
  exact⟨r,w,g1,fun e he hb=>by have:=g2 e he hb;omega,g3,fun j q oj c e1 e2 e3=>g4 j q oj c e1 (by simpa using e2) e3,g5,g6⟩
 ·have hi:i<ops.toList.length:=by
   have:=(Array.getElem?_eq_some_iff.1 ho).1
   simpa using this
  have hal:(ancs ops.toList)[i]?=some ((ancs ops.toList).getD i 0):=by
   have hlen:i<(ancs ops.toList).length:=by unfold ancs;rw[ancs_length];simpa using hi
   rw[List.getD_eq_getElem?_getD,List.getElem?_eq_getElem hlen]
   rfl
  have:=drawOk_go _ _ 0 fps i _ f h2 hal hf
  have:=drawOk_inner _ _ _ 0 (0+i) i' f' this (by omega) hf'
  rw[Nat.zero_add] at this
  exact this
theorem sorted_split{L:List (Nat×Stp)} {i:Nat} (hs:(L.map (·.1)).Pairwise (·<·)) (hi:i∈L.map (·.1)):∃ A s B,L=A++(i,s)::B/\(∀ q∈A,q.1<i)/\((A++B).map (·.1)).Pairwise (·<·)/\∀ k,k∈(A++B).map (·.1)↔k∈L.map (·.1)/\k≠i:=by
 obtain⟨q,hq,rfl⟩:=List.mem_map.1 hi
 obtain⟨A,B,rfl⟩:=List.append_of_mem hq
 obtain⟨i,s⟩:=q
 rw[List.map_append,List.map_cons] at hs
 obtain⟨s1,s2,s3⟩:=List.pairwise_append.1 hs
 obtain⟨s4,s5⟩:=List.pairwise_cons.1 s2
 refine⟨A,s,B,rfl,fun q hq=>s3 _ (List.mem_map.2 ⟨q,hq,rfl⟩) _ List.mem_cons_self,?_,fun k=>?_⟩
 ·rw[List.map_append]
  exact List.pairwise_append.2 ⟨s1,s5,fun a ha b hb=>s3 a ha b (List.mem_cons_of_mem _ hb)⟩
 ·simp only[List.map_append,List.map_cons,List.mem_append,List.mem_cons]
  constructor
  ·rintro(h | h)
   ·exact⟨.inl h,fun e=>by have:=s3 k h i List.mem_cons_self;omega⟩
   ·exact⟨.inr (.inr h),fun e=>by have:=s4 k h;omega⟩
  ·rintro⟨h | h | h,hne⟩
   ·exact .inl h
   ·exact(hne h).elim
   ·exact .inr h
section
variable {P:Program} {E:Env} {ops:Array Oper} {fps:List (Nat×Nat)} {Q:Exit->Act->World->Prop} {w0:World} {I:Own} {nt:Nat}
theorem any_wp(hE:EnvOk P E) (hQ:EqsOk P E) (hD:DrawOk ops fps) (hdst:∀ (i:Nat) o d,ops[i]?=some o->o.dst=some d->d<nt) {Y:FSt} {U0:Nat->Prop} {M0:Mp} {hi:Nat}
  (hK:∀ y U' M' a' w',Eqv Y y->(∀ k,U0 k->U' k)->Agree U0 M0 M'->Rel P w0 I nt U' M' y.st a' w'->(∀ k,hi<=k->¬ U' k)->Q .normal a' w') :
  ∀ (fuel:Nat) (listed:Array Bool) (L:List (Nat×Stp)) (x:FSt) (U:Nat->Prop) (M:Mp) (a:Act) (w:World),L.length=fuel->runOk E ops fps L x->Eqv Y (fin ops L x)->(L.map (·.1)).Pairwise (·<·)->(∀ k,k∈L.map (·.1)↔(k<ops.size/\listed.getD k true=false))->listed.size=ops.size ->
   (∀ k y,k<ops.size->listed.getD k true=true->An ops.toList k y->listed.getD y false=true)->Rel P w0 I nt U M x.st a w->UsOk x.us a->(∀ q∈L,∀ k,rangeOf q.2 k->¬ U k)->L.Pairwise Apart->(∀ k,U0 k->U k)->Agree U0 M0 M->(∀ k,hi<=k->¬ U k)->(∀ q∈L,∀ k,rangeOf q.2 k->k<hi)->wpAny P .any ops Q fuel listed a w:=by
 intro fuel
 induction fuel with
 | zero =>
  intro listed L x U M a w hlen hrun hfin hsort hmem hsz hcl hr hu hrg hap hU hA hhi hlt
  have:L=[]:=List.length_eq_zero_iff.1 hlen
  subst this
  refine⟨?_,hK x U M a w hfin hU hA hr hhi⟩
  cases hrd:Region.ready .any ops listed with
  | nil=>rfl
  | cons j js =>
   have hj:j∈Region.ready .any ops listed:=by rw[hrd];exact List.mem_cons_self
   obtain⟨h1,o,ho,_⟩:=mem_ready.1 hj
   have:=(hmem j).2 ⟨(Array.getElem?_eq_some_iff.1 ho).1,h1⟩
   simp at this
 | succ fuel ih =>
  intro listed L x U M a w hlen hrun hfin hsort hmem hsz hcl hr hu hrg hap hU hA hhi hlt
  refine⟨fun hrd=>?_,fun i hir=>?_⟩
  ·exfalso
   cases L with
   | nil=>cases hlen
   | cons q L =>
    obtain⟨i,s⟩:=q
    obtain⟨hi1,hi2⟩:=(hmem i).1 (by simp)
    obtain⟨o,ho,_⟩:=hrun
    obtain⟨r,ww,F⟩:=hD.fp i o ho
    have:i∈Region.ready .any ops listed:=by
     refine mem_ready.2 ⟨hi2,o,ho,fun e he hb=>?_⟩
     have hlt:=F.edge e he hb
     have hes:e.on<listed.size:=by omega
     cases hle:listed.getD e.on false with
     | true=>rfl
     | false =>
      exfalso
      have:listed.getD e.on true=false:=by
       simp only[Array.getD_eq_getD_getElem?,Array.getElem?_eq_getElem hes,Option.getD_some] at hle ⊢
       exact hle
      have:=(hmem e.on).2 ⟨by omega,this⟩
      simp only[List.map_cons,List.mem_cons] at this
      rcases this with e1 | e1
      ·have e1:e.on=i:=e1
       omega
      ·have h9:=(List.pairwise_cons.1 hsort).1 _ e1
       have h9:i<e.on:=h9
       omega
    rw[hrd] at this
    cases this
  ·obtain⟨hi1,o,ho,hall⟩:=mem_ready.1 hir
   have hin:i<ops.size:=(Array.getElem?_eq_some_iff.1 ho).1
   obtain⟨r,ww,F⟩:=hD.fp i o ho
   obtain⟨A,s,B,rfl,hA1,hA2,hA3⟩:=sorted_split hsort ((hmem i).2 ⟨hin,hi1⟩)
   have hanc:∀ y,An ops.toList i y->listed.getD y false=true:=fun y hy=>by
    obtain⟨e,he,hb,h⟩:=hy.step (by simpa using ho) F.edge
    rcases h with rfl | h
    ·exact hall e he hb
    ·have h1:=hall e he hb
     have hlt':=F.edge e he hb
     refine hcl e.on y (by omega) ?_ h
     have hes:e.on<listed.size:=by omega
     simp only[Array.getD_eq_getD_getElem?,Array.getElem?_eq_getElem hes,Option.getD_some] at h1 ⊢
     exact h1
   obtain⟨⟨o',ho',hok,hrest⟩,hev⟩:=move_front hD.fp A x hrun (fun q hq f f' hf hf'=>by
    rcases hD.pair i q.1 f' f o ho (hA1 q hq) hf hf' with h | h
    ·exfalso
     have h1:=hanc _ h
     have h2:=((hmem q.1).1 (by rw[List.map_append];exact List.mem_append_left _ (List.mem_map.2 ⟨q,hq,rfl⟩)))
     have hes:q.1<listed.size:=by omega
     have h2:=h2.2
     simp only[Array.getD_eq_getD_getElem?,Array.getElem?_eq_getElem hes,Option.getD_some] at h1 h2
     rw[h1] at h2
     cases h2
    ·exact h)
   rw[ho] at ho'
   cases ho'
   have hd:∀ d,o.dst=some d->d<nt:=fun d e=>hdst i o d ho e
   have hfin':Eqv Y (fin ops (A++B) (s.app o x)):=fun l=>by
    have:=(hfin l).trans (hev l)
    simpa only[fin,appI_eq ho] using this
   obtain⟨hapA,hapB,hapC⟩:=List.pairwise_append.1 hap
   obtain⟨hapD,hapE⟩:=List.pairwise_cons.1 hapB
   have hap':(A++B).Pairwise Apart:=List.pairwise_append.2 ⟨hapA,hapE,fun q hq q' hq'=>hapC q hq q' (List.mem_cons_of_mem _ hq')⟩
   have hap2:∀ q∈A++B,Apart (i,s) q:=fun q hq=>by
    rcases List.mem_append.1 hq with hq | hq
    ·exact(hapC q hq _ List.mem_cons_self).symm
    ·exact hapD q hq
   have hmem':∀ k,k∈(A++B).map (·.1)↔(k<ops.size/\(listed.setIfInBounds i true).getD k true=false):=fun k=>by
    rw[hA3,hmem]
    by_cases e:i=k
    ·subst e
     simp only[ne_eq,not_true,and_false,false_iff,not_and,Bool.not_eq_false]
     intro _
     simp [Array.getD_eq_getD_getElem?,Array.getElem?_setIfInBounds]
     split<;>rfl
    ·rw[getD_set_ne true e]
     exact⟨fun h=>h.1,fun h=>⟨h,fun e'=>e e'.symm⟩⟩
   have hcl':∀ k y,k<ops.size->(listed.setIfInBounds i true).getD k true=true->An ops.toList k y->(listed.setIfInBounds i true).getD y false=true:=fun k y hk hl hy=>by
    by_cases e:i=k
    ·subst e;exact getD_set_true (hanc y hy)
    ·rw[getD_set_ne true e] at hl
     exact getD_set_true (hcl k y hk hl hy)
   have hlen':(A++B).length=fuel:=by simp at hlen ⊢;omega
   have hrg':∀ q∈A++B,∀ k,rangeOf q.2 k->¬ U k:=fun q hq=>hrg q (by
    rcases List.mem_append.1 hq with hq | hq
    ·exact List.mem_append_left _ hq
    ·exact List.mem_append_right _ (List.mem_cons_of_mem _ hq))
   have hlt2:∀ q∈A++B,∀ k,rangeOf q.2 k->k<hi:=fun q hq=>hlt q (by
    rcases List.mem_append.1 hq with hq | hq
    ·exact List.mem_append_left _ hq
    ·exact List.mem_append_right _ (List.mem_cons_of_mem _ hq))
   have hsz':(listed.setIfInBounds i true).size=ops.size:=by simpa using hsz
   cases s with
   | skip=>exact skip_wp hr hu ho hd hok fun a' r u=>ih _ (A++B) _ U M a' w hlen' hrest hfin' hA2 hmem' hsz' hcl' r u hrg' hap' hU hA hhi hlt2
   | pick v=>exact pick_wp hE hr hu ho hd hok.1 hok.2 fun a' r u=>ih _ (A++B) _ U M a' w hlen' hrest hfin' hA2 hmem' hsz' hcl' r u hrg' hap' hU hA hhi hlt2
   | run id m p f =>
    obtain⟨g1,g2,g3⟩:=hok
    unfold wpOp
    simp only[ho]
    rw[if_pos (gRun_wanted hr g1)]
    obtain⟨ω0,hop⟩:=ok_any hE hQ o m w0 I nt U M x.st a w id hr hd
    have hme:((i,Stp.run id m p f):Nat×Stp)∈A++(i,Stp.run id m p f)::B:=List.mem_append_right _ List.mem_cons_self
    refine .inl ((hop false (fun e=>by rw[F.nil] at e;cases e) p f g2 (fun k e1 e2=>hrg _ hme k ⟨e1,e2⟩)).wp fun v w' ⟨M',hA',r'⟩=>?_)
    refine ih _ (A++B) _ _ M' _ w' hlen' hrest hfin' hA2 hmem' hsz' hcl' r' (us_put hu) (fun q hq k hk hk'=>?_) hap' (fun k hk=>.inl (hU k hk)) ⟨hA'.1.trans hA.1,fun k hk=>?_⟩ (fun k hk hk'=>?_) hlt2
    ·rcases hk' with hk' | hk'
     ·exact hrg' q hq k hk hk'
     ·exact hap2 q hq k hk' hk
    ·obtain⟨b1,b2,b3⟩:=hA'.2 k (hU k hk)
     obtain⟨c1,c2,c3⟩:=hA.2 k hk
     exact⟨b1.trans c1,b2.trans c2,b3.trans c3⟩
    ·rcases hk' with hk' | hk'
     ·exact hhi k hk hk'
     ·have:=hlt _ hme k hk'
      omega
theorem Rel.drew{U:Nat->Prop} {M:Mp} {st:St} {a:Act} {w:World} (h:Rel P w0 I nt U M st a w) (n:Nat):Rel P w0 I nt U M st a { w with drawn:=n }:=by
 have hk:Keeps noOwn w { w with drawn:=n }:=Keeps.drewN w n
 have hx:∀ O,Ext O w { w with drawn:=n }:=fun O=>⟨Nat.le_refl _,fun _ _ _ _=>rfl⟩
 exact h.upd (fun _ k=>k) (Agree.refl _ _) (hx _) (fun _ _ _ h=>h) (fun n v hn=>.inl ⟨hn,rfl⟩) (fun id v hv=>.inl ⟨hv,fun _ _ _=>rfl⟩) (hx _) (fun _ _ _ h=>h) (fun id z v hv=>.inl hv) h.tk h.live h.dis (h.keep.trans hk fun _ _ _ h=>h.elim) h.size h.defs (h.obj_keep hk) (fun _ _ hk' _=>hk')
end
theorem region_draw{P:Program} {E:Env} (hE:EnvOk P E) (hQ:EqsOk P E) (hm:P.follows .mixedOrders=true) {ops:Array Oper} {fps:List (Nat×Nat)} {Q:Exit->Act->World->Prop} {w0:World} {I:Own} {nt:Nat} {id:Nat} {its:Its} {R:Type} {st:St} {K:St->Option R} {r:R} {U:Nat->Prop} {M:Mp} {a:Act} {w:World}
  (h:evIts E ops fps its none 0 st K=some r) (hok:regOk ops its=true) (hdr:drawOk ops.toList fps=true) (hdst:∀ (i:Nat) o d,ops[i]?=some o->o.dst=some d->d<nt) (hr:Rel P w0 I nt U M st a w) (hf:∀ k,st.cnt<=k->¬ U k)
  (hK:∀ st' U' M' a' w',K st'=some r->WrOk st st'->(∀ k,U k->U' k)->Agree U M M'->Rel P w0 I nt U' M' st' a' w'->(∀ k,st'.cnt<=k->¬ U' k)->Q .normal a' w'):(Code.region id ops true).wp P Q a w:=by
 simp only[regOk,Bool.and_eq_true] at hok
 obtain⟨⟨h1,h2⟩,h3⟩:=hok
 have hfl:=eqNats_eq h2
 have hn:its.flat.Nodup:=by rw[hfl,upTo_range];exact List.nodup_range'
 have:=evIts_AR (nodupD_of h3) its none [] 0 st K r ⟨st,fun _=>False⟩ st.cnt h (Nat.zero_le _) h1 hn (fun k hk=>by simp at hk) trivial (Le.refl _) (Nat.le_refl _)
 obtain⟨L,hi,e1,e2,⟨st',k1,k2,_,k3,_,_,k7⟩,e4,e5,e6⟩:=AR_run _ _ _ this
 rw[hfl,upTo_range] at e1
 have hlen:L.length=ops.size:=by have:=congrArg List.length e1;simpa using this
 refine wp_region_any hm (any_wp hE hQ (drawOk_spec hdr) hdst (Y:=fin ops L ⟨st,fun _=>False⟩) (U0:=U) (M0:=M) (hi:=hi) ?_ ops.size _ L ⟨st,fun _=>False⟩ U M a _ hlen e2 (fun l=>AgL.refl _ l) ?_ (fun k=>?_) (by simp) (fun k y hk hl=>?_) (hr.drew _) (fun n hn=>hn.elim) (fun q hq k hk=>hf k (e5 q hq k hk).1) e6 (fun _ h=>h) (Agree.refl _ _) (fun k hk=>hf k (by omega)) (fun q hq k hk=>(e5 q hq k hk).2))
 ·intro y U' M' a' w' hy g1 g2 g3 g4
  refine hK st' U' M' a' w' k3 k7 g1 g2 ?_ fun k hk=>g4 k (by omega)
  refine(g3.congr (st':=(fin ops L ⟨st,fun _=>False⟩).st) (fun n=>(hy (.s n)).1) (fun n=>hy (.b n)) (fun n=>hy (.t n))).le k1
 ·rw[e1]
  exact List.pairwise_lt_range'
 ·rw[e1,List.mem_range'_1]
  constructor
  ·rintro⟨_,h⟩
   refine⟨by omega,?_⟩
   simp [Array.getD_eq_getD_getElem?,show k<ops.size by omega]
  ·rintro⟨h,_⟩
   omega
 ·exfalso
  simp [Array.getD_eq_getD_getElem?,hk] at hl
end Go.VX
/- VX, part 46: where ways join. -/
set_option linter.unusedVariables false
set_option linter.unusedSimpArgs false
namespace Go.VX
abbrev TM:=List (Nat×Option Nat)
structure TmExt (m m':TM):Prop where
  ext:∀ k q,look m k=some q->look m' k=some q
theorem TmExt.refl(m:TM):TmExt m m:=⟨fun _ _ h=>h⟩
theorem TmExt.trans{m m1 m2:TM} (h:TmExt m m1) (k:TmExt m1 m2):TmExt m m2:=⟨fun a q e=>k.ext a q (h.ext a q e)⟩
theorem TmExt.add{m:TM} {k:Nat} {q:Option Nat} (h:look m k=none):TmExt m ((k,q)::m):=⟨fun a r e=>by
  rw[look_cons,if_neg (fun e'=>by subst e';rw[h] at e;cases e)];exact e⟩
structure TmInj (m:TM):Prop where
  inj:∀ j j' t,look m j=some (some t)->look m j'=some (some t)->j=j'
theorem TmInj.nil:TmInj []:=⟨fun j j' t h _=>by cases h⟩
theorem TmInj.addT{m:TM} (h:TmInj m) {k t:Nat} (ht:memT m t=false):TmInj ((k,some t)::m):=by
  refine⟨fun j j' t' e1 e2=>?_⟩
  rw[look_cons] at e1 e2
  split at e1<;>split at e2
  · omega
  · cases e1;exact(memT_look ht e2).elim
  · cases e2;exact(memT_look ht e1).elim
  · exact h.inj j j' t' e1 e2
theorem TmInj.addN{m:TM} (h:TmInj m) {k:Nat}:TmInj ((k,none)::m):=by
  refine⟨fun j j' t' e1 e2=>?_⟩
  rw[look_cons] at e1 e2
  split at e1<;>split at e2<;>first | (cases e1;done) | (cases e2;done) | exact h.inj j j' t' e1 e2
theorem shOk_cases{tk:List (Nat×Bool)} {s h:Sh} {m m':TM} (e:shOk tk s h m=some m') :
    (s=.o/\h.plain=true/\m'=m)\/(∃ j,s=.tok j/\h=.nils/\look m j=none/\m'=(j,none)::m) \/
    (∃ j k,s=.tok j/\h=.tok k/\look tk k=some true/\look m j=none/\memT m k=false/\m'=(j,some k)::m) \/
    (∃ a b c d m1,s=.pr a b/\h=.pr c d/\shOk tk a c m=some m1/\shOk tk b d m1=some m')\/(s=h/\shOk.noTok s=true/\m'=m):=by
  unfold shOk at e
  split at e
  · split at e
    · cases e;exact .inl ⟨rfl,by assumption,rfl⟩
    · cases e
  · split at e
    · cases e;exact .inr (.inl ⟨_,rfl,rfl,by assumption,rfl⟩)
    · cases e
  · split at e
    · cases e
      exact .inr (.inr (.inl ⟨_,_,rfl,rfl,by assumption,by assumption,by assumption,rfl⟩))
    · cases e
  · split at e
    · exact .inr (.inr (.inr (.inl ⟨_,_,_,_,_,rfl,rfl,by assumption,e⟩)))
    · cases e
  · split at e
    · rename_i h1 h2
      cases e
      exact .inr (.inr (.inr (.inr ⟨of_decide_eq_true h1,h2,rfl⟩)))
    · cases e
theorem shOk_ext{tk:List (Nat×Bool)}:∀ (s h:Sh) {m m':TM},shOk tk s h m=some m'->TmExt m m':=by
  intro s
  induction s with
  | pr a b iha ihb =>
    intro h m m' e
    rcases shOk_cases e with⟨h1,_⟩ | ⟨_,h1,_⟩ | ⟨_,_,h1,_⟩ | ⟨a',b',c,d,m1,h1,h2,h3,h4⟩ | ⟨_,_,rfl⟩<;>first | (cases h1;done) | skip
    · cases h1;exact(iha c h3).trans (ihb d h4)
    · exact TmExt.refl _
  | _ =>
    intro h m m' e
    rcases shOk_cases e with⟨h1,_,rfl⟩ | ⟨_,h1,_,h2,rfl⟩ | ⟨_,_,h1,_,_,h2,_,rfl⟩ | ⟨a',b',c,d,m1,h1,h2,h3,h4⟩ | ⟨_,_,rfl⟩<;>first | exact TmExt.refl _ | exact TmExt.add h2 | cases h1
theorem shOk_inj{tk:List (Nat×Bool)}:∀ (s h:Sh) {m m':TM},shOk tk s h m=some m'->TmInj m->TmInj m':=by
  intro s
  induction s with
  | pr a b iha ihb =>
    intro h m m' e hi
    rcases shOk_cases e with⟨h1,_⟩ | ⟨_,h1,_⟩ | ⟨_,_,h1,_⟩ | ⟨a',b',c,d,m1,h1,h2,h3,h4⟩ | ⟨_,_,rfl⟩<;>first | (cases h1;done) | skip
    · cases h1;exact ihb d h4 (iha c h3 hi)
    · exact hi
  | _ =>
    intro h m m' e hi
    rcases shOk_cases e with⟨h1,_,rfl⟩ | ⟨_,h1,_,h2,rfl⟩ | ⟨_,_,h1,_,_,h2,h3,rfl⟩ | ⟨a',b',c,d,m1,h1,h2,h3,h4⟩ | ⟨_,_,rfl⟩<;>first | exact hi | exact hi.addN | exact hi.addT h3 | cases h1
theorem noTok_nil:∀ s:Sh,shOk.noTok s=true->toksOf s=[]
  | .tok _,h=>by cases h
  | .pr a b,h=>by
    simp only[shOk.noTok,Bool.and_eq_true] at h
    simp only[toksOf,noTok_nil a h.1,noTok_nil b h.2,List.append_nil]
  | .o,_ | .nilp,_ | .nils,_ | .mref _,_ | .box _ _ _,_ | .elem _ _ _ _ _ _,_=>rfl
theorem shOk_keys{tk:List (Nat×Bool)}:∀ (s h:Sh) {m m':TM},shOk tk s h m=some m'->(∀ k q,look m' k=some q->look m k=some q\/(k∈toksOf s/\∀ t,q=some t->look tk t=some true))/\∀ k∈toksOf s,∃ q,look m' k=some q:=by
  intro s
  induction s with
  | pr a b iha ihb =>
    intro h m m' e
    rcases shOk_cases e with⟨h1,_⟩ | ⟨_,h1,_⟩ | ⟨_,_,h1,_⟩ | ⟨a',b',c,d,m1,h1,h2,h3,h4⟩ | ⟨_,h1,rfl⟩<;>first | (cases h1;done) | skip
    · cases h1
      obtain⟨p1,p2⟩:=iha c h3
      obtain⟨q1,q2⟩:=ihb d h4
      refine⟨fun k q hk=>?_,fun k hk=>?_⟩
      · rcases q1 k q hk with hk | ⟨hk,hq⟩
        · rcases p1 k q hk with hk | ⟨hk,hq⟩
          · exact .inl hk
          · exact .inr ⟨List.mem_append_left _ hk,hq⟩
        · exact .inr ⟨List.mem_append_right _ hk,hq⟩
      · rcases List.mem_append.1 hk with hk | hk
        · obtain⟨q,hq⟩:=p2 k hk
          exact⟨q,(shOk_ext b d h4).ext _ _ hq⟩
        · exact q2 k hk
    · refine⟨fun k q hk=>.inl hk,fun k hk=>?_⟩
      rw[noTok_nil _ h1] at hk
      cases hk
  | _ =>
    intro h m m' e
    rcases shOk_cases e with⟨h1,_,rfl⟩ | ⟨j,h1,_,h2,rfl⟩ | ⟨j,t,h1,_,h0,h2,h3,rfl⟩ | ⟨a',b',c,d,m1,h1,h2,h3,h4⟩ | ⟨_,h1,rfl⟩<;>first
      | (cases h1;done)
      | (refine⟨fun k q hk=>.inl hk,fun k hk=>?_⟩
         rw[noTok_nil _ h1] at hk
         cases hk)
      | (cases h1
         refine⟨fun k q hk=>.inl hk,fun k hk=>?_⟩
         simp [toksOf] at hk)
      | (cases h1
         refine⟨fun k q hk=>?_,fun k hk=>?_⟩
         · rw[look_cons] at hk
           split at hk
           · rename_i e'
             subst e'
             cases hk
             exact .inr ⟨by simp [toksOf],fun t e=>by cases e<;>exact h0⟩
           · exact .inl hk
         · simp only[toksOf,List.mem_singleton] at hk
           subst hk
           exact⟨_,by rw[look_cons,if_pos rfl]⟩)
      | (cases h1
         refine⟨fun k q hk=>?_,fun k hk=>?_⟩
         · rw[look_cons] at hk
           split at hk
           · rename_i e'
             subst e'
             cases hk
             exact .inr ⟨by simp [toksOf],fun t e=>by cases e⟩
           · exact .inl hk
         · simp only[toksOf,List.mem_singleton] at hk
           subst hk
           exact⟨_,by rw[look_cons,if_pos rfl]⟩)
def Mp.named(M:Mp) (m:TM):Mp:={ M with tok:=fun k=>match look m k with
  | some (some t)=>M.tok t
  | some none=>(none,0,0,0)
  | none=>M.tok k }
theorem named_some{M:Mp} {m:TM} {k t:Nat} (h:look m k=some (some t)):(M.named m).tok k=M.tok t:=by simp [Mp.named,h]
theorem named_none{M:Mp} {m:TM} {k:Nat} (h:look m k=some none):((M.named m).tok k).1=none:=by simp [Mp.named,h]
theorem named_out{M:Mp} {m:TM} {k:Nat} (h:look m k=none):(M.named m).tok k=M.tok k:=by simp [Mp.named,h]
theorem noTok_ag{M:Mp} {m:TM}:∀ s:Sh,shOk.noTok s=true->ShAg M (M.named m) s
  | .tok _,h=>by cases h
  | .pr a b,h=>by
    simp only[shOk.noTok,Bool.and_eq_true] at h
    exact⟨noTok_ag a h.1,noTok_ag b h.2⟩
  | .o,_ | .nilp,_ | .nils,_=>trivial
  | .mref _,_ | .box _ _ _,_ | .elem _ _ _ _ _ _,_=>rfl
theorem leaf_o{P:Program} {t:Ty} (h1:t.agg=false) (h2:t.tup=false) (h3:t≠.nx) {w:World} {O:Own} {M:Mp} {x:t.D} {a b:Sh} {cs:List Value}:RepC P t w O M x (.pr a b) cs=RepC P t w O M x .o cs:=by
  cases t<;>first | rfl | (cases h1;done) | (cases h2;done) | (exact(h3 rfl).elim)
theorem nx_join{P:Program} {w:World} {O O':Own} {M:Mp} {mf:TM} {tk:List (Nat×Bool)} {a b c d:Sh} {m m1 m':TM} {x:Ty.nx.D} {cs:List Value} (h3:shOk tk a c m=some m1) (h4:shOk tk b d m1=some m') (r:RepC P .nx w O M x (.pr c d) cs) :
    RepC P .nx w O' (M.named mf) x (.pr a b) cs:=by
  cases d with
  | mref j =>
    have hb:b=.mref j:=by
      rcases shOk_cases h4 with⟨h1,h2,_⟩ | ⟨_,h1,h2,_⟩ | ⟨_,_,h1,h2,_⟩ | ⟨_,_,_,_,_,h1,h2,_⟩ | ⟨h1,_,_⟩
      · cases h2
      · cases h2
      · cases h2
      · cases h2
      · exact h1
    subst hb
    cases c with
    | box k q off =>
      rcases shOk_cases h3 with⟨h1,h2,_⟩ | ⟨_,h1,h2,_⟩ | ⟨_,_,h1,h2,_⟩ | ⟨_,_,_,_,_,h1,h2,_⟩ | ⟨h1,_,_⟩
      · subst h1;exact⟨_,r⟩
      · cases h2
      · cases h2
      · cases h2
      · subst h1;exact r
    | _ =>
      cases a<;>first
        | exact r
        | (rcases shOk_cases h3 with⟨h1,h2,_⟩ | ⟨_,h1,h2,_⟩ | ⟨_,_,h1,h2,_⟩ | ⟨_,_,_,_,_,h1,h2,_⟩ | ⟨h1,_,_⟩<;>cases h1)
  | _ =>
    cases b with
    | mref i=>rcases shOk_cases h4 with⟨h1,h2,_⟩ | ⟨_,h1,h2,_⟩ | ⟨_,_,h1,h2,_⟩ | ⟨_,_,_,_,_,h1,h2,_⟩ | ⟨h1,_,_⟩<;>cases h1
    | _=>cases a<;>cases c<;>exact r
theorem shOk_rep{P:Program} {w:World} {O O':Own} {M:Mp} {tk:List (Nat×Bool)} {mf:TM} (hO:∀ b o,b<w.heap.size->O' b o->O b o):∀ (s:Sh) (t:Ty) (h:Sh) {m m':TM} {x:t.D} {cs:List Value},
    shOk tk s h m=some m'->TmExt m' mf->RepC P t w O M x h cs->RepC P t w O' (M.named mf) x s cs:=by
  intro s
  induction s with
  | pr a b iha ihb =>
    intro t h m m' x cs e hm r
    rcases shOk_cases e with⟨h1,_⟩ | ⟨_,h1,_⟩ | ⟨_,_,h1,_⟩ | ⟨a',b',c,d,m1,h1,h2,h3,h4⟩ | ⟨h1,h2,rfl⟩<;>first | (cases h1;done) | skip
    · cases h1
      subst h2
      have r0:t.agg=false->t.tup=false->t≠.nx->RepC P t w O M x (.pr c d) cs->RepC P t w O' (M.named mf) x (.pr a b) cs:=fun h1 h2 h5 r=>by
        rw[leaf_o h1 h2 h5] at r ⊢
        exact r.mono P _ (Ext.refl _ _) hO trivial
      cases t<;>first
        | exact r0 rfl rfl (fun e=>by cases e) r
        | exact r
        | skip
      · obtain⟨c1,c2,e1,l1,l2,t1,t2,r1,r2⟩:=r
        exact⟨c1,c2,e1,l1,l2,t1,t2,iha _ c h3 ((shOk_ext _ _ h4).trans hm) r1,ihb _ d h4 hm r2⟩
      · obtain⟨v,vs,e1,t1,r1,r2⟩:=r
        exact⟨v,vs,e1,t1,r1.imp fun _ hc=>iha _ c h3 ((shOk_ext _ _ h4).trans hm) hc,ihb _ d h4 hm r2⟩
      · clear iha ihb r0
        exact nx_join h3 h4 r
    · subst h1
      exact r.mono P t (Ext.refl _ _) hO (noTok_ag _ h2)
  | _ =>
    intro t h m m' x cs e hm r
    rcases shOk_cases e with⟨h1,h2,_⟩ | ⟨j,h1,h2,h3,h4⟩ | ⟨j,k,h1,h2,h0,h3,_,h4⟩ | ⟨a',b',c,d,m1,h1,h2,h3,h4⟩ | ⟨h1,h2,rfl⟩<;>first
      | (cases h1;done)
      | (cases h1;exact(r.forget t h2 (M.named mf)).mono P t (Ext.refl _ _) hO trivial)
      | (subst h1;exact r.mono P t (Ext.refl _ _) hO (noTok_ag _ h2))
      | (cases h1;subst h2 h4
         have hp:(Sh.nils).plain=true:=rfl
         have r0:RepC P t w O' (M.named mf) x .o cs:=(r.forget t hp (M.named mf)).mono P t (Ext.refl _ _) hO trivial
         cases t<;>first
           | exact r0
           | (obtain⟨pa,n,c,e1,e2,e3,e4,e5⟩:=r
              refine⟨pa,n,c,e1,e2,e3,e4,?_⟩
              dsimp only[SlSh] at e5 ⊢
              subst e5
              exact⟨fun p hp=>(by cases hp),.inr ⟨rfl,named_none (hm.ext _ _ (by rw[look_cons,if_pos rfl]))⟩⟩))
      | (cases h1;subst h2 h4
         have r0:RepC P t w O' (M.named mf) x .o cs:=(r.forget t (by rfl) (M.named mf)).mono P t (Ext.refl _ _) hO trivial
         cases t<;>first
           | exact r0
           | (obtain⟨pa,n,c,e1,e2,e3,e4,e5⟩:=r
              refine⟨pa,n,c,e1,e2,e3,e4,?_⟩
              dsimp only[SlSh] at e5 ⊢
              exact⟨fun p hp=>(e5.1 p hp).imp (Ext.refl _ _) hO (fun y es hy=>hy.mono P _ (Ext.refl _ _) hO trivial),e5.2.ren (named_some (hm.ext _ _ (by rw[look_cons,if_pos rfl])))⟩))
theorem shOk_repV{P:Program} {w:World} {O O':Own} {M:Mp} {tk:List (Nat×Bool)} {mf m m':TM} (hO:∀ b o,b<w.heap.size->O' b o->O b o) {s h:Sh} {t:Ty} {x:t.D} {v:Value}
    (e:shOk tk s h m=some m') (hm:TmExt m' mf) (r:RepV P t w O M x h v):RepV P t w O' (M.named mf) x s v:=by
  unfold RepV at *
  split at r
  · obtain⟨vs,e1,r⟩:=r
    exact⟨vs,e1,shOk_rep hO s _ h e hm r⟩
  · exact r.imp fun c hc=>shOk_rep hO s _ h e hm hc
end Go.VX
/- VX, part 47: where ways join: the state. -/
set_option linter.unusedVariables false
set_option linter.unusedSimpArgs false
namespace Go.VX
theorem look_pick{α:Type} {l:List (Nat×α)} {x:α} {n:Nat}:∀ {ks:List Nat},look (pickL l ks) n=some x->n∈ks/\look l n=some x
 | [],h=>by cases h
 | k::ks,h=>by
  simp only[pickL] at h
  split at h
  ·rename_i y hy
   rw[look_cons] at h
   split at h
   ·rename_i e;subst e;cases h;exact⟨List.mem_cons_self,hy⟩
   ·obtain⟨h1,h2⟩:=look_pick h
    exact⟨List.mem_cons_of_mem _ h1,h2⟩
  ·obtain⟨h1,h2⟩:=look_pick h
   exact⟨List.mem_cons_of_mem _ h1,h2⟩
theorem look_app_true{l:List Nat} {m:List (Nat×Bool)} {n:Nat} (h:look (l.map (·,true)++m) n=some true):n∈l\/look m n=some true:=by
 induction l with
 | nil=>exact .inr h
 | cons a l ih =>
  rw[List.map_cons,List.cons_append,look_cons] at h
  split at h
  ·rename_i e;exact .inl (by simp [e])
  ·rcases ih h with h | h
   ·exact .inl (List.mem_cons_of_mem _ h)
   ·exact .inr h
def Carried(st':St) (mf:TM) (l:Loc) (v:Vl):Prop:=∃ u mi mi',getLoc st' l=some u/\castTo v.ty u=some v.val/\shOk st'.tk v.sh u.sh mi=some mi'/\TmExt mi' mf
theorem join_look{st':St}:∀ (js:List JE) (m mf:TM) (x:JD js) (st:St),shJoin st' js m=some mf->valJoin st' js=some x ->
  TmExt m mf /\
  (∀ n v,look (upd js x st).sl n=some (some v)->(Carried st' mf (.s n) v/\∃ e∈js,e.loc=.s n/\e.sh=v.sh)\/look st.sl n=some (some v)) /\
  (∀ n y,look (upd js x st).bx n=some y->(∃ v,y=.rw v/\Carried st' mf (.b n) v/\∃ e∈js,e.loc=.b n/\e.sh=v.sh)\/look st.bx n=some y) /\
  (∀ k,look (upd js x st).tk k=some true->(∃ q,look mf k=some q/\∃ e∈js,k∈toksOf e.sh)\/look st.tk k=some true)
 | [],m,mf,x,st,hs,hv=>by
  simp only[shJoin,Option.some.injEq] at hs
  subst hs
  exact⟨TmExt.refl _,fun n v h=>.inr h,fun n y h=>.inr h,fun k h=>.inr h⟩
 | ⟨loc,t,s⟩::js,m,mf,x,st,hs,hv=>by
  simp only[shJoin] at hs
  simp only[valJoin] at hv
  split at hs
  ·rename_i u hu
   split at hs
   ·rename_i m1 hm1
    rw[hu] at hv
    dsimp only at hv
    split at hv
    ·rename_i x0 xs hx0 hxs
     cases hv
     obtain⟨k1,k2,k3,k4⟩:=join_look js m1 mf xs st hs hxs
     have hc:Carried st' mf loc ⟨t,x0,s⟩:=⟨u,m,m1,hu,hx0,hm1,k1⟩
     have htk:∀ k∈toksOf s,∃ q,look mf k=some q:=fun k hk=>by
      obtain⟨q,hq⟩:=(shOk_keys _ _ hm1).2 k hk
      exact⟨q,k1.ext _ _ hq⟩
     refine⟨(shOk_ext _ _ hm1).trans k1,fun n v h=>?_,fun n y h=>?_,fun k h=>?_⟩
     ·have tail:look (upd js xs st).sl n=some (some v)->(Carried st' mf (.s n) v/\∃ e∈⟨loc,t,s⟩::js,e.loc=.s n/\e.sh=v.sh)\/look st.sl n=some (some v):=fun h=>by
       rcases k2 n v h with⟨h1,e,h2,h3⟩ | h1
       ·exact .inl ⟨h1,e,List.mem_cons_of_mem _ h2,h3⟩
       ·exact .inr h1
      cases loc with
      | s n0 =>
       replace h:look ((n0,some ⟨t,x0,s⟩)::(upd js xs st).sl) n=some (some v):=h
       rw[look_cons] at h
       split at h
       ·rename_i e;subst e;cases h;exact .inl ⟨hc,_,List.mem_cons_self,rfl,rfl⟩
       ·exact tail h
      | b n0=>exact tail h
      | t n0=>exact tail h
     ·have tail:look (upd js xs st).bx n=some y->(∃ v,y=.rw v/\Carried st' mf (.b n) v/\∃ e∈⟨loc,t,s⟩::js,e.loc=.b n/\e.sh=v.sh)\/look st.bx n=some y:=fun h=>by
       rcases k3 n y h with⟨v,h0,h1,e,h2,h3⟩ | h1
       ·exact .inl ⟨v,h0,h1,e,List.mem_cons_of_mem _ h2,h3⟩
       ·exact .inr h1
      cases loc with
      | b n0 =>
       replace h:look ((n0,Bx.rw ⟨t,x0,s⟩)::(upd js xs st).bx) n=some y:=h
       rw[look_cons] at h
       split at h
       ·rename_i e;subst e;cases h;exact .inl ⟨_,rfl,hc,_,List.mem_cons_self,rfl,rfl⟩
       ·exact tail h
      | s n0=>exact tail h
      | t n0=>exact tail h
     ·have tail:look (upd js xs st).tk k=some true->(∃ q,look mf k=some q/\∃ e∈⟨loc,t,s⟩::js,k∈toksOf e.sh)\/look st.tk k=some true:=fun h=>by
       rcases k4 k h with⟨q,h1,e,h2,h3⟩ | h1
       ·exact .inl ⟨q,h1,e,List.mem_cons_of_mem _ h2,h3⟩
       ·exact .inr h1
      cases loc with
      | t n0=>exact tail h
      | _ =>
       rcases look_app_true h with h | h
       ·obtain⟨q,hq⟩:=htk k h
        exact .inl ⟨q,hq,_,List.mem_cons_self,h⟩
       ·exact tail h
    ·cases hv
   ·cases hs
  ·cases hs
theorem join_inj{st':St}:∀ (js:List JE) (m mf:TM),shJoin st' js m=some mf->TmInj m->TmInj mf
 | [],m,mf,hs,h=>by simp only[shJoin,Option.some.injEq] at hs;subst hs;exact h
 | e::js,m,mf,hs,h=>by
  simp only[shJoin] at hs
  split at hs
  ·split at hs
   ·rename_i m1 hm1
    exact join_inj js m1 mf hs (shOk_inj _ _ hm1 h)
   ·cases hs
  ·cases hs
theorem join_keys{st':St}:∀ (js:List JE) (m mf:TM),shJoin st' js m=some mf->∀ k q,look mf k=some q->look m k=some q\/((∃ e∈js,k∈toksOf e.sh)/\∀ t,q=some t->look st'.tk t=some true)
 | [],m,mf,hs,k,q,hk=>by simp only[shJoin,Option.some.injEq] at hs;subst hs;exact .inl hk
 | e::js,m,mf,hs,k,q,hk=>by
  simp only[shJoin] at hs
  split at hs
  ·split at hs
   ·rename_i m1 hm1
    rcases join_keys js m1 mf hs k q hk with hk | ⟨⟨e',h1,h2⟩,h3⟩
    ·rcases (shOk_keys _ _ hm1).1 k q hk with hk | ⟨hk,h3⟩
     ·exact .inl hk
     ·exact .inr ⟨⟨e,List.mem_cons_self,hk⟩,h3⟩
    ·exact .inr ⟨⟨e',List.mem_cons_of_mem _ h1,h2⟩,h3⟩
   ·cases hs
  ·cases hs
theorem shBelow_in{n:Nat}:∀ s:Sh,shBelow n s=true->ShIn (·<n) s
 | .tok k,h | .mref k,h | .box k _ _,h | .elem k _ _ _ _ _,h=>Nat.lt_of_lt_of_le (Nat.le_of_ble_eq_true h) (Nat.le_refl _)
 | .pr a b,h=>by
  simp only[shBelow,Bool.and_eq_true] at h
  exact⟨shBelow_in a h.1,shBelow_in b h.2⟩
 | .o,_ | .nilp,_ | .nils,_=>trivial
theorem tokAbove_mem{n:Nat}:∀ s:Sh,tokAbove n s=true->∀ k∈toksOf s,n<=k
 | .tok k,h,k',hk=>by simp only[toksOf,List.mem_singleton] at hk;subst hk;exact Nat.le_of_ble_eq_true h
 | .pr a b,h,k,hk=>by
  simp only[tokAbove,Bool.and_eq_true] at h
  rcases List.mem_append.1 hk with hk | hk
  ·exact tokAbove_mem a h.1 k hk
  ·exact tokAbove_mem b h.2 k hk
 | .o,_,_,hk | .nilp,_,_,hk | .nils,_,_,hk | .mref _,_,_,hk | .box _ _ _,_,_,hk | .elem _ _ _ _ _ _,_,_,hk=>by simp [toksOf] at hk
theorem toks_below{n:Nat}:∀ s:Sh,shBelow n s=true->∀ k∈toksOf s,k<n
 | .tok k,h,k',hk=>by simp only[toksOf,List.mem_singleton] at hk;subst hk;exact Nat.lt_of_lt_of_le (Nat.le_of_ble_eq_true h) (Nat.le_refl _)
 | .pr a b,h,k,hk=>by
  simp only[shBelow,Bool.and_eq_true] at h
  rcases List.mem_append.1 hk with hk | hk
  ·exact toks_below a h.1 k hk
  ·exact toks_below b h.2 k hk
 | .o,_,_,hk | .nilp,_,_,hk | .nils,_,_,hk | .mref _,_,_,hk | .box _ _ _,_,_,hk | .elem _ _ _ _ _ _,_,_,hk=>by simp [toksOf] at hk
theorem memN_false{l:List Loc} {x:Loc} (h:memN l x=false):x ∉ l:=by
 induction l with
 | nil=>intro h;cases h
 | cons a l ih =>
  intro hm
  simp only[memN] at h
  split at h
  ·cases h
  ·rename_i hb
   rcases List.mem_cons.1 hm with e | hm
   ·exact(of_decide_eq_false hb) e.symm
   ·exact ih h hm
structure InU (U:Nat->Prop) (st:St):Prop where
 sl:∀ n v,look st.sl n=some (some v)->ShIn U v.sh
 rw:∀ n v,look st.bx n=some (.rw v)->ShIn U v.sh/\U n
 ro:∀ n z v,look st.bx n=some (.ro z v)->ShIn U v.sh/\U n
 tk:∀ k,look st.tk k=some true->U k
theorem Rel.inU{P:Program} {w0:World} {I:Own} {nt:Nat} {U:Nat->Prop} {M:Mp} {st:St} {a:Act} {w:World} (h:Rel P w0 I nt U M st a w):InU U st :=
 ⟨fun n v hn=>(h.sl n v hn).2,fun n v hn=>(h.bx n v hn).2,fun n z v hn=>(h.ro n z v hn).2,h.tk⟩
theorem castTo_carr{v u:Vl} (h:castTo v.ty u=some v.val):u=⟨v.ty,v.val,u.sh⟩:=castTo_vl h
theorem look_pickM{α:Type} {f:Nat->Option α} {i:Nat} {y:α}:∀ {ks:List Nat},look (pickM f ks) i=some y->f i=some y
 | [],h=>by cases h
 | k::ks,h=>by
  simp only[pickM] at h
  split at h
  ·rename_i a ha
   rw[look_cons] at h
   split at h
   ·rename_i e;subst e;cases h;exact ha
   ·exact look_pickM h
  ·exact look_pickM h
theorem jsM_mem{n:Nat}:∀ {js:List JE} {i:Nat},jsM n js i=true->Loc.s i∈js.map (·.loc)
 | [],_,h=>by cases h
 | ⟨.s i0,t,.mref m⟩::js,i,h=>by
  simp only[jsM,Bool.or_eq_true,Bool.and_eq_true] at h
  rcases h with h | h
  ·have:=Nat.eq_of_beq_eq_true h.1
   subst this
   exact List.mem_cons_self
  ·exact List.mem_cons_of_mem _ (jsM_mem h)
 | ⟨.s _,_,.o⟩::js,i,h | ⟨.s _,_,.nilp⟩::js,i,h | ⟨.s _,_,.nils⟩::js,i,h | ⟨.s _,_,.tok _⟩::js,i,h | ⟨.s _,_,.box _ _ _⟩::js,i,h
 | ⟨.s _,_,.elem _ _ _ _ _ _⟩::js,i,h | ⟨.s _,_,.pr _ _⟩::js,i,h | ⟨.b _,_,_⟩::js,i,h | ⟨.t _,_,_⟩::js,i,h=>List.mem_cons_of_mem _ (jsM_mem (js:=js) h)
theorem renS_some{st:St} {js:List JE} {n k i:Nat} {v:Vl} (h:renS st js n k i=some (some v)) :
  (Loc.s i∈js.map (·.loc)/\∃ (e:Ty) (x:List e.D),look st.sl i=some (some ⟨.sl e,x,.mref k⟩)/\v=⟨.sl e,x,.mref n⟩)\/(look st.sl i=some (some v)/\menS n v.sh=false):=by
 unfold renS at h
 split at h
 ·rename_i v0 hv0
  split at h
  ·rename_i hm
   split at h
   ·rename_i e x k'
    split at h
    ·rename_i hk
     have:=Nat.eq_of_beq_eq_true hk
     subst this
     cases h
     exact .inl ⟨jsM_mem hm,_,_,hv0,rfl⟩
    ·cases h
   ·cases h
  ·split at h
   ·cases h
   ·rename_i hm
    cases h
    exact .inr ⟨hv0,hm⟩
 ·cases h
theorem renB_some{st:St} {n k i:Nat} {y:Bx} (h:renB st n k i=some y):i≠n/\i≠k/\look st.bx i=some y/\bxMen n y=false:=by
 unfold renB at h
 split at h
 ·cases h
 ·rename_i hb
  simp only[Bool.or_eq_false_iff] at hb
  split at h
  ·rename_i y0 hy0
   split at h
   ·cases h
   ·rename_i hm
    cases h
    exact⟨fun e=>by subst e;simp at hb,fun e=>by subst e;simp at hb,hy0,hm⟩
  ·cases h
def Mp.alias(M:Mp) (n k:Nat):Mp:={ M with box:=fun i=>if i=n then M.box k else M.box i,row:=fun i=>if i=n then M.row k else M.row i }
theorem alias_n{M:Mp} {n k:Nat}:(M.alias n k).box n=M.box k/\(M.alias n k).row n=M.row k:=by simp [Mp.alias]
theorem alias_o{M:Mp} {n k i:Nat} (h:i≠n):(M.alias n k).box i=M.box i/\(M.alias n k).row i=M.row i:=by simp [Mp.alias,h]
theorem men_ag{M:Mp} {n k:Nat}:∀ s:Sh,menS n s=false->ShAg M (M.alias n k) s
 | .tok _,_=>rfl
 | .mref i,h=>(alias_o (k:=k) (fun e=>by subst e;simp [menS] at h)).2
 | .box i _ _,h=>(alias_o (k:=k) (fun e=>by subst e;simp [menS] at h)).1
 | .elem i _ _ _ _ _,h=>(alias_o (k:=k) (fun e=>by subst e;simp [menS] at h)).1
 | .pr a b,h=>by
  simp only[menS,Bool.or_eq_false_iff] at h
  exact⟨men_ag a h.1,men_ag b h.2⟩
 | .o,_ | .nilp,_ | .nils,_=>trivial
theorem ren1_ok{P:Program} {w0:World} {I:Own} {nt:Nat} {U U':Nat->Prop} {M':Mp} {st':St} {a':Act} {w':World} (h:Rel P w0 I nt U' M' st' a' w') {j:JS} {n k:Nat} (hn:¬ U n) {s0:St} (hW:WrOk s0 st') :
  ∃ M'' U'',(∀ i,U' i->U'' i)/\Agree U M' M''/\Rel P w0 I nt U'' M'' (ren1 st' j n k) a' w'/\WrOk s0 (ren1 st' j n k):=by
 unfold ren1
 split
 rotate_left
 ·exact⟨M',U',fun _ h=>h,Agree.refl _ _,h,hW⟩
 rename_i e l s hk
 obtain⟨hbk,_,huk⟩:=h.bx _ _ hk
 have hUU:∀ i,U' i->U' i\/i=n:=fun i hi=>.inl hi
 have hbx:∀ i y,look ((n,Bx.rw ⟨.ms e,l,s⟩)::pickM (renB st' n k) (jsB j.js++j.keepB)) i=some y->(i=n/\y=.rw ⟨.ms e,l,s⟩)\/(i≠n/\i≠k/\look st'.bx i=some y/\bxMen n y=false):=fun i y hi=>by
  rw[look_cons] at hi
  split at hi
  ·rename_i e';cases hi;exact .inl ⟨e'.symm,rfl⟩
  ·exact .inr (renB_some (look_pickM hi))
 generalize hst:({ st' with sl:=pickM (renS st' j.js n k) (jsS j.js++j.keepS),bx:=(n,.rw ⟨.ms e,l,s⟩)::pickM (renB st' n k) (jsB j.js++j.keepB),wr:=.b n::(j.js.map (·.loc)++st'.wr) }:St)=st1
 have hsl1:st1.sl=pickM (renS st' j.js n k) (jsS j.js++j.keepS):=by rw[← hst]
 have hbx1:st1.bx=(n,.rw ⟨.ms e,l,s⟩)::pickM (renB st' n k) (jsB j.js++j.keepB):=by rw[← hst]
 have htk1:st1.tk=st'.tk:=by rw[← hst]
 have hwr1:st1.wr=.b n::(j.js.map (·.loc)++st'.wr):=by rw[← hst]
 have hreg:∀ l0 b o,reg st1 (M'.alias n k) l0 b o->∃ l1,reg st' M' l1 b o/\((l0=.b n/\l1=.b k)\/(l0≠.b n/\l0≠.b k/\l1=l0)):=by
  intro l0 b o hl
  rcases l0 with(_ | i) | i | i
  ·exact⟨.s 0,hl,.inr ⟨fun e=>(by cases e),fun e=>(by cases e),rfl⟩⟩
  ·exact hl.elim
  ·obtain⟨v,hv,hin⟩:=hl
   rw[hbx1] at hv
   rcases hbx _ _ hv with⟨rfl,e1⟩ | ⟨h1,h2,h3,_⟩
   ·cases e1
    refine⟨.b k,⟨_,hk,?_⟩,.inl ⟨rfl,rfl⟩⟩
    obtain⟨q,q1,q2,q3⟩:=hin
    rw[alias_n.2] at q1 q3
    exact⟨q,q1,q2,q3⟩
   ·exact⟨.b i,⟨v,h3,(inBox_congr (alias_o h1).1 (alias_o h1).2).1 hin⟩,.inr ⟨fun e=>h1 (by cases e;rfl),fun e=>h2 (by cases e;rfl),rfl⟩⟩
  ·obtain⟨h1,h2⟩:=hl
   rw[htk1] at h1
   exact⟨.t i,⟨h1,h2⟩,.inr ⟨fun e=>(by cases e),fun e=>(by cases e),rfl⟩⟩
 have hown:∀ b o,own st1 (M'.alias n k) b o->own st' M' b o:=fun b o ⟨l0,hl⟩=>by
  obtain⟨l1,h1,_⟩:=hreg l0 b o hl
  exact⟨l1,h1⟩
 have hownN:∀ b o,ownN st1 (M'.alias n k) b o->ownN st' M' b o:=fun b o ⟨l0,h0,hl⟩=>by
  obtain⟨l1,h1,h2⟩:=hreg l0 b o hl
  refine⟨l1,?_,h1⟩
  rcases h2 with⟨_,rfl⟩ | ⟨_,_,rfl⟩
  ·intro e;cases e
  ·exact h0
 refine⟨M'.alias n k,fun i=>U' i\/i=n,hUU,⟨rfl,fun i hi=>?_⟩,⟨fun i v hv=>?_,fun i v hv=>?_,fun i z v hv=>?_,fun i hi=>?_,fun b o hb=>h.live b o (hown b o hb),fun l1 l2 b o h1 h2=>?_,h.keep,h.size,h.defs,fun i v hv ht=>?_⟩,⟨fun l0 hl=>?_,fun i v hi hv=>?_,fun i y hi hv=>?_⟩⟩
 ·have:i≠n:=fun e=>hn (e ▸ hi)
  exact⟨(alias_o this).1,rfl,(alias_o this).2⟩
 ·rw[hsl1] at hv
  rcases renS_some (look_pickM hv) with⟨_,e',x,h1,rfl⟩ | ⟨h1,h2⟩
  ·obtain⟨r,u⟩:=h.sl _ _ h1
   refine⟨?_,.inr rfl⟩
   have r':RepC P (.sl e') w' (own st' M') M' x (.mref k) [a'.tmps.getD i undef]:=r
   obtain⟨pa,m,c,e1,e2,e3,e4,e5⟩:=r'
   refine(repV_of (t:=.sl e') rfl).2 (show RepC P (.sl e') w' (own st1 (M'.alias n k)) (M'.alias n k) x (.mref n) [a'.tmps.getD i undef] from⟨pa,m,c,.inl (e1.strict rfl),e2,e3,e4,?_⟩)
   exact alias_n.2.trans e5
  ·obtain⟨r,u⟩:=h.sl _ _ h1
   exact⟨r.mono P (Ext.refl _ _) (fun b o _=>hown b o) (men_ag _ h2),u.mono hUU _⟩
 ·rw[hbx1] at hv
  rcases hbx _ _ hv with⟨rfl,e1⟩ | ⟨h1,h2,h3,h4⟩
  ·cases e1
   obtain⟨hb,hs,_⟩:=h.bx _ _ hk
   refine⟨?_,hs.mono hUU _,.inr rfl⟩
   obtain⟨e0,pa,m,c,e1,e2,e3,e4,kk⟩:=hb
   exact⟨e0,pa,m,c,alias_n.2.trans e1,e2,e3,e4,fun p hp=>⟨alias_n.1.trans (kk p hp).1,fun i y hi=>by
    obtain⟨es,f1,f2,f3⟩:=(kk p hp).2 i y hi
    exact⟨es,f1,f2,RepC.mono P _ f3 (Ext.refl _ _) (fun b o _=>hown b o) trivial⟩⟩⟩
  ·obtain⟨hb,hs,hu⟩:=h.bx _ _ h3
   exact⟨hb.mono (Ext.refl _ _) (fun b o _=>hown b o) (men_ag _ h4) (alias_o h1).1 (alias_o h1).2 (fun _ _ _=>rfl) (fun _=>rfl),hs.mono hUU _,.inl hu⟩
 ·rw[hbx1] at hv
  rcases hbx _ _ hv with⟨rfl,e1⟩ | ⟨h1,h2,h3,h4⟩
  ·cases e1
  ·obtain⟨hb,hs,hu⟩:=h.ro _ _ _ h3
   exact⟨hb.mono (Ext.refl _ _) (fun b o _=>hown b o) (Ext.refl _ _) (fun b o _=>hownN b o) (men_ag _ h4) (alias_o h1).1,hs.mono hUU _,.inl hu⟩
 ·rw[htk1] at hi
  exact .inl (h.tk i hi)
 ·obtain⟨q1,k1,k2⟩:=hreg l1 b o h1
  obtain⟨q2,k3,k4⟩:=hreg l2 b o h2
  have e:=h.dis _ _ _ _ k1 k3
  subst e
  rcases k2 with⟨f1,f2⟩ | ⟨f1,f2,f3⟩<;>rcases k4 with⟨g1,g2⟩ | ⟨g1,g2,g3⟩
  ·rw[f1,g1]
  ·exact(g2 (g3.symm.trans f2)).elim
  ·exact(f2 (f3.symm.trans g2)).elim
  ·rw[← f3,← g3]
 ·rw[hbx1] at hv
  rcases hbx _ _ hv with⟨rfl,e1⟩ | ⟨h1,h2,h3,h4⟩
  ·cases e1;cases ht
  ·obtain⟨o1,o2⟩:=h.ob _ _ h3 ht
   rw[(alias_o h1).1]
   refine⟨o1,fun i' v' hv' ht' he=>?_⟩
   rw[hbx1] at hv'
   rcases hbx _ _ hv' with⟨rfl,e1⟩ | ⟨g1,g2,g3,g4⟩
   ·cases e1;cases ht'
   ·rw[(alias_o g1).1] at he
    exact o2 _ _ g3 ht' he
 ·rw[hwr1]
  exact List.mem_cons_of_mem _ (List.mem_append_right _ (hW.wr l0 hl))
 ·rw[hwr1] at hi
  rw[hsl1] at hv
  rcases renS_some (look_pickM hv) with⟨hm,_⟩ | ⟨h1,h2⟩
  ·exact(hi (List.mem_cons_of_mem _ (List.mem_append_left _ hm))).elim
  ·exact hW.sl i v (fun hm=>hi (List.mem_cons_of_mem _ (List.mem_append_right _ hm))) h1
 ·rw[hwr1] at hi
  rw[hbx1] at hv
  rcases hbx _ _ hv with⟨rfl,e1⟩ | ⟨h1,h2,h3,h4⟩
  ·exact(hi List.mem_cons_self).elim
  ·exact hW.bx i y (fun hm=>hi (List.mem_cons_of_mem _ (List.mem_append_right _ hm))) h3
theorem renAll_ok{P:Program} {w0:World} {I:Own} {nt:Nat} {U:Nat->Prop} {j:JS} {c0:Nat} (hc:∀ k,U k->k<c0) {a':Act} {w':World} {s0:St}:∀ (r:List (Nat×Nat)) {U':Nat->Prop} {M':Mp} {st' st1:St},
  Rel P w0 I nt U' M' st' a' w'->WrOk s0 st'->renAll c0 j r st'=some st1->∃ M'' U'',(∀ i,U' i->U'' i)/\Agree U M' M''/\Rel P w0 I nt U'' M'' st1 a' w'/\WrOk s0 st1
 | [],U',M',st',st1,h,hW,e=>by
  simp only[renAll,Option.some.injEq] at e
  subst e
  exact⟨M',U',fun _ h=>h,Agree.refl _ _,h,hW⟩
 | (n,k)::r,U',M',st',st1,h,hW,e=>by
  simp only[renAll] at e
  split at e
  ·rename_i hb
   have hb:=Nat.le_of_ble_eq_true hb
   obtain⟨M1,U1,q1,q2,q3,q4⟩:=ren1_ok (U:=U) (j:=j) (n:=n) (k:=k) h (fun hu=>by have:=hc n hu;omega) hW
   obtain⟨M2,U2,p1,p2,p3,p4⟩:=renAll_ok hc r q3 q4 e
   refine⟨M2,U2,fun i hi=>p1 i (q1 i hi),⟨p2.1.trans q2.1,fun i hi=>?_⟩,p3,p4⟩
   obtain⟨b1,b2,b3⟩:=p2.2 i hi
   obtain⟨c1,c2,c3⟩:=q2.2 i hi
   exact⟨b1.trans c1,b2.trans c2,b3.trans c3⟩
  ·cases e
theorem join_ok0{P:Program} {w0:World} {I:Own} {nt:Nat} {U U':Nat->Prop} {M':Mp} {st st':St} {a':Act} {w':World} (h:Rel P w0 I nt U' M' st' a' w') (hin:InU U st) (hc:∀ k,U k->k<st.cnt) (hUU:∀ k,U k->U' k)
  {j:JS} {x:JD j.js} (hj:endJ0 { st with wr:=[] } st' j=some x) (hW:WrOk { st with wr:=[] } st') :
  ∃ M'',Agree U M' M''/\Rel P w0 I nt (·<j.cnt) M'' (joinSt st j x) a' w'/\st.cnt<=j.cnt:=by
 unfold endJ0 at hj
 split at hj
 case h_2=>cases hj
 rename_i hok
 simp only[joinOk,Bool.and_eq_true] at hok
 obtain⟨⟨⟨⟨⟨⟨o1,o2⟩,o3⟩,o4⟩,o5⟩,o6⟩,o7⟩:=hok
 split at o7
 case h_2=>cases o7
 rename_i mf hmf
 obtain⟨_,j1,j2,j3⟩:=join_look j.js [] mf x { sl:=pickL st.sl j.keepS,bx:=pickL st.bx j.keepB,tk:=pickL st.tk j.keepT,cnt:=j.cnt,wr:=j.js.map (·.loc)++st.wr } hmf hj
 have hinj:=join_inj _ _ _ hmf TmInj.nil
 have hkeys:=join_keys _ _ _ hmf
 have o5:st.cnt<=j.cnt:=Nat.le_of_ble_eq_true o5
 have hje:∀ e∈j.js,shBelow j.cnt e.sh=true/\tokAbove st.cnt e.sh=true/\locBelow j.cnt e.loc=true:=fun e he=>by
  have:=List.all_eq_true.1 o6 e he
  simp only[Bool.and_eq_true] at this
  exact⟨this.1.1,this.1.2,this.2⟩
 have hkU:∀ k q,look mf k=some q->¬ U k/\k<j.cnt/\(∀ t,q=some t->look st'.tk t=some true):=fun k q hk=>by
  rcases hkeys k q hk with hk | ⟨⟨e,he,hke⟩,hq⟩
  ·cases hk
  ·refine⟨fun hu=>?_,toks_below _ (hje e he).1 k hke,hq⟩
   have:=tokAbove_mem _ (hje e he).2.1 k hke
   have:=hc k hu
   omega
 have hA:Agree U M' (M'.named mf):=⟨rfl,fun k hk=>⟨rfl,by
  refine named_out ?_
  cases hq:look mf k with
  | none=>rfl
  | some q=>exact((hkU k q hq).1 hk).elim,rfl⟩⟩
 have hUj:∀ k,U k->k<j.cnt:=fun k hk=>Nat.lt_of_lt_of_le (hc k hk) o5
 have kS:∀ n v,look (pickL st.sl j.keepS) n=some (some v)->look st'.sl n=some (some v)/\look st.sl n=some (some v):=fun n v hn=>by
  obtain⟨hm,hn⟩:=look_pick hn
  have:=List.all_eq_true.1 o1 n hm
  simp only[Bool.and_eq_true,Bool.not_eq_true'] at this
  obtain⟨h1,h2⟩:=this
  split at h2
  ·rename_i v' hv'
   have:=hW.sl n v' (memN_false h1) hv'
   have hn':look st.sl n=some (some v'):=this
   rw[hn] at hn'
   cases hn'
   exact⟨hv',hn⟩
  ·cases h2
 have kB:∀ n y,look (pickL st.bx j.keepB) n=some y->look st'.bx n=some y/\look st.bx n=some y:=fun n y hn=>by
  obtain⟨hm,hn⟩:=look_pick hn
  have:=List.all_eq_true.1 o2 n hm
  simp only[Bool.and_eq_true,Bool.not_eq_true'] at this
  obtain⟨h1,h2⟩:=this
  cases hy:look st'.bx n with
  | none=>rw[hy] at h2;cases h2
  | some y' =>
   have hn':look st.bx n=some y':=hW.bx n y' (memN_false h1) hy
   rw[hn] at hn'
   cases hn'
   exact⟨rfl,hn⟩
 have kT:∀ k,look (pickL st.tk j.keepT) k=some true->look st'.tk k=some true/\look st.tk k=some true/\k∈j.keepT:=fun k hk=>by
  obtain⟨hm,hk⟩:=look_pick hk
  have:=List.all_eq_true.1 o3 k hm
  simp only[Bool.and_eq_true] at this
  obtain⟨_,h2⟩:=this
  split at h2
  ·rename_i hh;exact⟨hh,hk,hm⟩
  ·cases h2
 have hbT:∀ n v,look (joinSt st j x).bx n=some (.rw v)->∃ u,look st'.bx n=some (.rw u)/\u.ty=v.ty:=fun n v hn=>by
  rcases j2 n _ hn with⟨v',e,⟨u,_,_,hu,hx,_⟩,_⟩ | hn
  ·cases e
   have:=castTo_carr hx
   refine⟨u,?_,by rw[this]⟩
   simp only[getLoc] at hu
   split at hu
   ·rename_i hh;cases hu;exact hh
   ·cases hu
  ·exact⟨v,(kB n _ hn).1,rfl⟩
 have hregL:∀ l b o,reg (joinSt st j x) (M'.named mf) l b o->∃ l0,reg st' M' l0 b o/\((∀ k,l≠.t k)/\l0=l\/∃ k,l=.t k/\((∃ t,look mf k=some (some t)/\l0=.t t)\/(look mf k=none/\k∈j.keepT/\l0=.t k))):=by
  intro l b o hl
  rcases l with(_ | n) | n | k
  ·exact⟨.s 0,hl,.inl ⟨fun _ e=>(by cases e),rfl⟩⟩
  ·exact hl.elim
  ·obtain⟨v,hv,hin⟩:=hl
   obtain⟨u,hu,ht⟩:=hbT n v hv
   exact⟨.b n,⟨u,hu,by rw[ht];exact(inBox_congr rfl rfl).1 hin⟩,.inl ⟨fun _ e=>(by cases e),rfl⟩⟩
  ·obtain⟨hk,hin⟩:=hl
   cases hq:look mf k with
   | some q =>
    cases q with
    | some t =>
     refine⟨.t t,⟨(hkU k _ hq).2.2 t rfl,?_⟩,.inr ⟨k,rfl,.inl ⟨t,hq,rfl⟩⟩⟩
     unfold inTok at hin ⊢
     rw[named_some hq] at hin
     exact hin
    | none =>
     obtain⟨q,h1,_⟩:=hin
     rw[named_none hq] at h1
     cases h1
   | none =>
    rcases j3 k hk with⟨q,hq',_⟩ | hk
    ·rw[hq] at hq';cases hq'
    ·obtain⟨t1,t2,t3⟩:=kT k hk
     refine⟨.t k,⟨t1,?_⟩,.inr ⟨k,rfl,.inr ⟨hq,t3,rfl⟩⟩⟩
     unfold inTok at hin ⊢
     rw[named_out hq] at hin
     exact hin
 have hown:∀ b o,own (joinSt st j x) (M'.named mf) b o->own st' M' b o:=fun b o ⟨l,hl⟩=>by
  obtain⟨l0,h1,_⟩:=hregL l b o hl
  exact⟨l0,h1⟩
 have hownN:∀ b o,ownN (joinSt st j x) (M'.named mf) b o->ownN st' M' b o:=fun b o ⟨l,h0,hl⟩=>by
  obtain⟨l0,h1,h2⟩:=hregL l b o hl
  refine⟨l0,?_,h1⟩
  rcases h2 with⟨_,rfl⟩ | ⟨k,rfl,⟨t,_,rfl⟩ | ⟨_,_,rfl⟩⟩
  ·exact h0
  ·intro e;cases e
  ·intro e;cases e
 refine⟨M'.named mf,hA,⟨fun n v hn=>?_,fun n v hn=>?_,fun n z v hn=>?_,fun k hk=>?_,fun b o hb=>h.live b o (hown b o hb),fun l l' b o h1 h2=>?_,h.keep,h.size,h.defs,fun n v hn ht=>?_⟩,o5⟩
 rotate_right
 ·obtain⟨u,hu,htu⟩:=hbT n v hn
  refine⟨(h.ob n u hu (by rw[htu];exact ht)).1,fun n' v' hn' ht' he=>?_⟩
  obtain⟨u',hu',htu'⟩:=hbT n' v' hn'
  exact(h.ob n u hu (by rw[htu];exact ht)).2 n' u' hu' (by rw[htu'];exact ht') he
 ·rcases j1 n v hn with⟨⟨u,mi,mi',hu,hx,hs,he⟩,e,he1,he2,he3⟩ | hn
  ·simp only[getLoc] at hu
   split at hu
   ·rename_i u' hu'
    cases hu
    obtain⟨r,_⟩:=h.sl n u hu'
    have:=castTo_carr hx
    generalize u.sh=us at this hs
    subst this
    refine⟨shOk_repV (fun b o _=>hown b o) hs he r,?_⟩
    rw[← he3]
    exact shBelow_in _ (hje e he1).1
   ·cases hu
  ·obtain⟨k1,k2⟩:=kS n v hn
   have hiu:=hin.sl n v k2
   exact⟨(h.sl n v k1).1.mono P (Ext.refl _ _) (fun b o _=>hown b o) (hA.sh _ hiu),hiu.mono hUj _⟩
 ·rcases j2 n _ hn with⟨v',e,⟨u,mi,mi',hu,hx,hs,he⟩,e',he1,he2,he3⟩ | hn
  ·cases e
   simp only[getLoc] at hu
   split at hu
   ·rename_i u' hu'
    cases hu
    obtain⟨r,_,_⟩:=h.bx n u hu'
    have:=castTo_carr hx
    generalize u.sh=us at this hs
    subst this
    refine⟨?_,by rw[← he3];exact shBelow_in _ (hje e' he1).1,?_⟩
    ·by_cases hv:isMs v.ty=true
     ·obtain⟨tv,xv,sv⟩:=v
      cases tv<;>first | cases hv | skip
      rotate_left
      ·exact ObOk.mono (t:=.tu _ _) r (Ext.refl _ _) (fun b o _=>hown b o) rfl rfl
      ·cases r.1
      obtain⟨e0,pa,m,c,e1,e2,e3,e4,k⟩:=r
      exact⟨e0,pa,m,c,e1,e2,e3,e4,fun p hp=>⟨(k p hp).1,fun i y hi=>by
       obtain⟨es,f1,f2,f3⟩:=(k p hp).2 i y hi
       exact⟨es,f1,f2,RepC.mono P _ f3 (Ext.refl _ _) (fun b o _=>hown b o) trivial⟩⟩⟩
     ·have hv:isMs v.ty=false:=by simpa using hv
      obtain⟨ht,cs,r,k⟩:=(BoxOk.plain (v:=⟨v.ty,v.val,us⟩) hv).1 r
      exact(BoxOk.plain hv).2 ⟨ht,cs,shOk_rep (fun b o _=>hown b o) _ _ _ hs he r,k⟩
    ·have:=(hje e' he1).2.2
     rw[he2] at this
     exact Nat.lt_of_lt_of_le (Nat.le_of_ble_eq_true this) (Nat.le_refl _)
   ·cases hu
  ·obtain⟨k1,k2⟩:=kB n _ hn
   obtain⟨hiu,hun⟩:=hin.rw n v k2
   exact⟨(h.bx n v k1).1.mono (Ext.refl _ _) (fun b o _=>hown b o) (hA.sh _ hiu) rfl rfl (fun _ _ _=>rfl) (fun _=>rfl),hiu.mono hUj _,hUj n hun⟩
 ·rcases j2 n _ hn with⟨v',e,_⟩ | hn
  ·cases e
  ·obtain⟨k1,k2⟩:=kB n _ hn
   obtain⟨hiu,hun⟩:=hin.ro n z v k2
   exact⟨(h.ro n z v k1).1.mono (Ext.refl _ _) (fun b o _=>hown b o) (Ext.refl _ _) (fun b o _=>hownN b o) (hA.sh _ hiu) rfl,hiu.mono hUj _,hUj n hun⟩
 ·rcases j3 k hk with⟨q,hq,_⟩ | hk
  ·exact(hkU k q hq).2.1
  ·exact hUj k (hin.tk k (kT k hk).2.1)
 ·obtain⟨l0,k1,k2⟩:=hregL l b o h1
  obtain⟨l0',k3,k4⟩:=hregL l' b o h2
  have e:=h.dis _ _ _ _ k1 k3
  subst e
  have hlast:∀ k t,look mf k=some (some t)->t ∉ j.keepT:=fun k t hk hm=>by
   have:=List.all_eq_true.1 o7 _ (look_mem hk)
   simp only[Bool.not_eq_true',List.contains_eq_mem,decide_eq_false_iff_not] at this
   exact this hm
  rcases k2 with⟨f1,f2⟩ | ⟨k,f1,⟨t,f2,f3⟩ | ⟨f2,f4,f3⟩⟩<;>rcases k4 with⟨g1,g2⟩ | ⟨k',g1,⟨t',g2,g3⟩ | ⟨g2,g4,g3⟩⟩
  ·rw[← f2,← g2]
  ·rw[f2] at g3;exact(f1 _ g3).elim
  ·rw[f2] at g3;exact(f1 _ g3).elim
  ·rw[g2] at f3;exact(g1 _ f3).elim
  ·rw[f3] at g3;cases g3
   rw[f1,g1,hinj.inj _ _ _ f2 g2]
  ·rw[f3] at g3;cases g3
   exact(hlast _ _ f2 g4).elim
  ·rw[g2] at f3;exact(g1 _ f3).elim
  ·rw[f3] at g3;cases g3
   exact(hlast _ _ g2 f4).elim
  ·rw[f3] at g3;cases g3
   rw[f1,g1]
theorem join_ok{P:Program} {w0:World} {I:Own} {nt:Nat} {U U':Nat->Prop} {M':Mp} {st st':St} {a':Act} {w':World} (h:Rel P w0 I nt U' M' st' a' w') (hin:InU U st) (hc:∀ k,U k->k<st.cnt) (hUU:∀ k,U k->U' k)
  {j:JS} {x:JD j.js} (hj:endJ { st with wr:=[] } st' j=some x) (hW:WrOk { st with wr:=[] } st') :
  ∃ M'',Agree U M' M''/\Rel P w0 I nt (·<j.cnt) M'' (joinSt st j x) a' w'/\st.cnt<=j.cnt:=by
 unfold endJ at hj
 split at hj
 ·rename_i st1 h1
  obtain⟨M1,U1,q1,q2,q3,q4⟩:=renAll_ok (U:=U) hc _ h hW h1
  obtain⟨M2,p1,p2,p3⟩:=join_ok0 q3 hin hc (fun k hk=>q1 k (hUU k hk)) hj q4
  refine⟨M2,⟨p1.1.trans q2.1,fun i hi=>?_⟩,p2,p3⟩
  obtain⟨b1,b2,b3⟩:=p1.2 i hi
  obtain⟨c1,c2,c3⟩:=q2.2 i hi
  exact⟨b1.trans c1,b2.trans c2,b3.trans c3⟩
 ·cases hj
end Go.VX
/- VX, part 48: the evaluator is right. -/
set_option linter.unusedVariables false
set_option linter.unusedSimpArgs false
namespace Go.VX
def exOf:Ex->Exit
 | .normal=>.normal
 | .exit id=>.exit id
 | .ret=>.ret
theorem upd_out:∀ (js:List JE) (x:JD js) (st:St),
  (∀ n z,look (upd js x st).sl n=some z->(∃ e∈js,e.loc=.s n)\/look st.sl n=some z)/\(∀ n z,look (upd js x st).bx n=some z->(∃ e∈js,e.loc=.b n)\/look st.bx n=some z)/\(upd js x st).cnt=st.cnt/\(upd js x st).wr=st.wr
 | [],x,st=>⟨fun n z h=>.inr h,fun n z h=>.inr h,rfl,rfl⟩
 | ⟨loc,t,s⟩::js,x,st=>by
  obtain⟨h1,h2,h3,h4⟩:=upd_out js x.2 st
  have t1:∀ n z,look (upd js x.2 st).sl n=some z->(∃ e∈⟨loc,t,s⟩::js,e.loc=.s n)\/look st.sl n=some z:=fun n z h=>by
   rcases h1 n z h with⟨e,he,hl⟩ | h
   ·exact .inl ⟨e,List.mem_cons_of_mem _ he,hl⟩
   ·exact .inr h
  have t2:∀ n z,look (upd js x.2 st).bx n=some z->(∃ e∈⟨loc,t,s⟩::js,e.loc=.b n)\/look st.bx n=some z:=fun n z h=>by
   rcases h2 n z h with⟨e,he,hl⟩ | h
   ·exact .inl ⟨e,List.mem_cons_of_mem _ he,hl⟩
   ·exact .inr h
  cases loc with
  | s n0 =>
   refine⟨fun n z h=>?_,t2,h3,h4⟩
   replace h:look ((n0,some ⟨t,x.1,s⟩)::(upd js x.2 st).sl) n=some z:=h
   rw[look_cons] at h
   split at h
   ·rename_i e;subst e;exact .inl ⟨_,List.mem_cons_self,rfl⟩
   ·exact t1 n z h
  | b n0 =>
   refine⟨t1,fun n z h=>?_,h3,h4⟩
   replace h:look ((n0,Bx.rw ⟨t,x.1,s⟩)::(upd js x.2 st).bx) n=some z:=h
   rw[look_cons] at h
   split at h
   ·rename_i e;subst e;exact .inl ⟨_,List.mem_cons_self,rfl⟩
   ·exact t2 n z h
  | t n0=>exact⟨t1,t2,h3,h4⟩
theorem joinSt_cnt{st:St} {j:JS} {x:JD j.js}:(joinSt st j x).cnt=j.cnt:=(upd_out _ _ _).2.2.1
theorem joinSt_wr{st:St} {j:JS} {x:JD j.js}:(joinSt st j x).wr=j.js.map (·.loc)++st.wr:=(upd_out _ _ _).2.2.2
theorem joinSt_ok{st:St} {j:JS} {x:JD j.js}:WrOk st (joinSt st j x):=by
 refine⟨fun l hl=>by rw[joinSt_wr];exact List.mem_append_right _ hl,fun n v hn hl=>?_,fun n y hn hl=>?_⟩
 ·rw[joinSt_wr] at hn
  rcases (upd_out _ _ _).1 n _ hl with⟨e,he,h⟩ | h
  ·exact(hn (List.mem_append_left _ (List.mem_map.2 ⟨e,he,h⟩))).elim
  ·exact(look_pick h).2
 ·rw[joinSt_wr] at hn
  rcases (upd_out _ _ _).2.1 n _ hl with⟨e,he,h⟩ | h
  ·exact(hn (List.mem_append_left _ (List.mem_map.2 ⟨e,he,h⟩))).elim
  ·exact(look_pick h).2
theorem bndS_some{α β:Type} {x:Option (α ⊕ β)} {f:α->Option β} {r:β} (h:bndS x f=some r):(∃ a,x=some (.inl a)/\f a=some r)\/x=some (.inr r):=by
 unfold bndS at h
 split at h
 ·exact .inl ⟨_,rfl,h⟩
 ·cases h;exact .inr rfl
 ·cases h
theorem bndS_z{α β:Type} {x:Option (α ⊕ β)} {f:α->Option β} {r:β} (h:bndS x f=some r):∃ z,x=some z/\((∃ a,some z=some (.inl a)/\f a=some r)\/some z=some (.inr r)):=by
 rcases bndS_some h with⟨a,h1,h2⟩ | h1
 ·exact⟨_,h1,.inl ⟨a,rfl,h2⟩⟩
 ·exact⟨_,h1,.inr rfl⟩
theorem inrE_some{α β:Type} {y:Option β} {z:α ⊕ β} (h:inrE y=some z):∃ r,y=some r/\z=.inr r:=by
 unfold inrE at h
 split at h
 ·cases h;exact⟨_,rfl,rfl⟩
 ·cases h
theorem loopP_some{σ ρ:Type} {f:σ->Option (σ ⊕ ρ)} {s:σ} {r:ρ} (h:loopP f s=some r):∃ n,loopN f n s=some r:=by
 unfold loopP at h
 split at h
 ·exact⟨_,h⟩
 ·cases h
theorem WrOk.outer{st st':St} (h:WrOk { st with wr:=[] } st'):WrOk st { st' with wr:=st'.wr++st.wr } :=
 ⟨fun l hl=>List.mem_append_right _ hl,fun n v hn hl=>h.sl n v (fun hm=>hn (List.mem_append_left _ hm)) hl,fun n y hn hl=>h.bx n y (fun hm=>hn (List.mem_append_left _ hm)) hl⟩
theorem eval_bool{P:Program} {E:Env} (hE:EnvOk P E) {w0:World} {I:Own} {nt:Nat} {U:Nat->Prop} {M:Mp} {st:St} {a:Act} {w:World} (h:Rel P w0 I nt U M st a w) {c:Operand} {R:Type} {r:R} {K:Bool->Option R}
  (he:((opd E c none retV).go st [] fun p _=>match p.v with
   | some ⟨.bool,q,_⟩=>K q
   | _=>none)=some r):∃ q,a.eval c=.bool q/\K q=some r:=by
 obtain⟨p,f,g,e⟩:=go_goes false _ _ _ he
 obtain⟨u,f',hu,g,_⟩:=goes_opd g
 have:=goes_retV g
 subst this
 dsimp only at e
 split at e
 ·rename_i q s heq
  cases heq
  exact⟨q,rep_bool (opd_rep hE h hu).1,e⟩
 ·cases e
theorem Agree.trans'{U U':Nat->Prop} {M M1 M2:Mp} (h:Agree U M M1) (hU:∀ k,U k->U' k) (k:Agree U' M1 M2):Agree U M M2 :=
 ⟨k.1.trans h.1,fun n hn=>by
  obtain⟨b1,b2,b3⟩:=k.2 n (hU n hn)
  obtain⟨c1,c2,c3⟩:=h.2 n hn
  exact⟨b1.trans c1,b2.trans c2,b3.trans c3⟩⟩
section
variable {P:Program} {E:Env} {w0:World} {I:Own} {nt:Nat}
def Post(P:Program) (w0:World) (I:Own) (nt:Nat) {R:Type} (st:St) (K:Ex->St->Option R) (r:R) (U:Nat->Prop) (M:Mp) (Q:Exit->Act->World->Prop):Prop :=
 ∀ e st' U' M' a' w',K e st'=some r->WrOk st st'->(∀ k,U k->U' k)->Agree U M M'->Rel P w0 I nt U' M' st' a' w'->(∀ k,st'.cnt<=k->¬ U' k)->Q (exOf e) a' w'
theorem join_post{R:Type} {st st':St} {K:Ex->St->Option R} {r:R} {U U':Nat->Prop} {M M':Mp} {Q:Exit->Act->World->Prop} {a':Act} {w':World} (hin:InU U st) (hf:∀ k,st.cnt<=k->¬ U k) (hp:Post P w0 I nt st K r U M Q)
  {j:JS} {x:JD j.js} (hj:endJ { st with wr:=[] } st' j=some x) (hK:K .normal (joinSt st j x)=some r) (hW:WrOk { st with wr:=[] } st') (hU:∀ k,U k->U' k) (hA:Agree U M M') (h:Rel P w0 I nt U' M' st' a' w'):Q .normal a' w':=by
 obtain⟨M'',h1,h2,h3⟩:=join_ok h hin (fun k hk=>by
  rcases Nat.lt_or_ge k st.cnt with h | h
  ·exact h
  ·exact(hf k h hk).elim) hU hj hW
 refine hp .normal (joinSt st j x) (·<j.cnt) M'' a' w' hK joinSt_ok (fun k hk=>?_) (hA.trans' (fun _ h=>h) h1) h2 (fun k hk=>by rw[joinSt_cnt] at hk;omega)
 rcases Nat.lt_or_ge k st.cnt with h | h
 ·omega
 ·exact(hf k h hk).elim
theorem ev_ok(hE:EnvOk P E) (hQ:EqsOk P E) (hm:P.follows .mixedOrders=true):∀ (c:Code) (n:Ann) {R:Type} (st:St) (K:Ex->St->Option R) (r:R) (U:Nat->Prop) (M:Mp) (a:Act) (w:World) (Q:Exit->Act->World->Prop),
  ev E c n st K=some r->dstOk nt c=true->Rel P w0 I nt U M st a w->(∀ k,st.cnt<=k->¬ U k)->Post P w0 I nt st K r U M Q->c.wp P Q a w:=by
 intro c
 induction c with
 | skip =>
  intro n R st K r U M a w Q h _ hr hf hp
  exact wp_skip (hp .normal st U M a w h (WrOk.refl st) (fun _ k=>k) (Agree.refl _ _) hr hf)
 | region id ops draw =>
  intro n R st K r U M a w Q h hd hr hf hp
  have hdst:∀ (i:Nat) o d,ops[i]?=some o->o.dst=some d->d<nt:=fun i o d ho hdd=>by
   have:=List.all_eq_true.1 hd o (by have:=Array.mem_of_getElem? ho;simpa using this)
   rw[hdd] at this
   exact Nat.lt_of_lt_of_le (Nat.le_of_ble_eq_true this) (Nat.le_refl _)
  simp only[ev] at h
  split at h
  ·rename_i its fps
   split at h
   ·rename_i hok
    simp only[Bool.and_eq_true] at hok
    obtain⟨h1,h2⟩:=hok
    cases draw with
    | false =>
     have:fps=[]:=by simpa using h2
     subst this
     exact region_seq hE hQ h h1 hdst hr hf fun st' U' M' a' w' e1 e2 e3 e4 e5 e6=>hp .normal st' U' M' a' w' e1 e2 e3 e4 e5 e6
    | true=>exact region_draw hE hQ hm h h1 h2 hdst hr hf fun st' U' M' a' w' e1 e2 e3 e4 e5 e6=>hp .normal st' U' M' a' w' e1 e2 e3 e4 e5 e6
   ·cases h
  ·cases h
 | seq x y ihx ihy =>
  intro n R st K r U M a w Q h hd hr hf hp
  simp only[dstOk,Bool.and_eq_true] at hd
  simp only[ev] at h
  refine wp_seq (ihx n.fst st _ r U M a w _ h hd.1 hr hf fun e st' U' M' a' w' e1 e2 e3 e4 e5 e6=>?_)
  cases e with
  | normal =>
   exact ihy n.snd st' K r U' M' a' w' Q e1 hd.2 e5 e6 fun e st2 U2 M2 a2 w2 f1 f2 f3 f4 f5 f6=>hp e st2 U2 M2 a2 w2 f1 (e2.trans f2) (fun k hk=>f3 k (e3 k hk)) (e4.trans' e3 f4) f5 f6
  | exit id=>exact hp _ st' U' M' a' w' e1 e2 e3 e4 e5 e6
  | ret=>exact hp _ st' U' M' a' w' e1 e2 e3 e4 e5 e6
 | cond c x y ihx ihy =>
  intro n R st K r U M a w Q h hd hr hf hp
  simp only[dstOk,Bool.and_eq_true] at hd
  simp only[ev] at h
  have hh:=eval_bool hE hr h
  clear h
  obtain⟨q,hq,h⟩:=hh
  have hr0:Rel P w0 I nt U M { st with wr:=[] } a w:=hr.congr (fun _=>rfl) (fun _=>rfl) (fun _=>rfl)
  split at h
  ·rename_i j n'
   obtain⟨z,hz,hK⟩:=bnd_some h
   refine wp_cond hq ?_
   have post:Post P w0 I nt { st with wr:=[] } (fun(e:Ex) (st':St)=>match e with
     | .normal=>endJ { st with wr:=[] } st' j
     | _=>(none:Option (JD j.js))) z U M Q:=fun e st' U' M' a' w' e1 e2 e3 e4 e5 e6=>by
    cases e with
    | normal=>exact join_post hr.inU hf hp e1 hK e2 e3 e4 e5
    | exit id=>cases e1
    | ret=>cases e1
   rcases cnd_some hz with⟨rfl,hz⟩ | ⟨rfl,hz⟩
   ·exact ihx n'.fst { st with wr:=[] } _ z U M a w Q hz hd.1 hr0 hf post
   ·exact ihy n'.snd { st with wr:=[] } _ z U M a w Q hz hd.2 hr0 hf post
  ·rename_i j n'
   refine wp_cond hq ?_
   have post:∀ z,((∃ x,z=some (.inl x)/\K .normal (joinSt st j x)=some r)\/z=some (.inr r))->∀ z',z=some z'->Post P w0 I nt { st with wr:=[] } (fun(e:Ex) (st':St)=>match e with
     | .normal=>match endJ { st with wr:=[] } st' j with
      | some x=>inlE x
      | none=>none
     | e=>(inrE (K e { st' with wr:=st'.wr++st.wr }):Option (JD j.js ⊕ R))) z' U M Q:=fun z hz z' hzz e st' U' M' a' w' e1 e2 e3 e4 e5 e6=>by
    subst hzz
    cases e with
    | normal =>
     dsimp only at e1
     split at e1
     ·rename_i x' hx'
      cases e1
      rcases hz with⟨x,hz,hK⟩ | hz
      ·cases hz
       exact join_post hr.inU hf hp hx' hK e2 e3 e4 e5
      ·cases hz
     ·cases e1
    | exit id =>
     obtain⟨r',hr',e1⟩:=inrE_some e1
     subst e1
     rcases hz with⟨x,hz,hK⟩ | hz
     ·cases hz
     ·cases hz
      exact hp _ _ U' M' a' w' hr' e2.outer e3 e4 (e5.congr (fun _=>rfl) (fun _=>rfl) (fun _=>rfl)) e6
    | ret =>
     obtain⟨r',hr',e1⟩:=inrE_some e1
     subst e1
     rcases hz with⟨x,hz,hK⟩ | hz
     ·cases hz
     ·cases hz
      exact hp _ _ U' M' a' w' hr' e2.outer e3 e4 (e5.congr (fun _=>rfl) (fun _=>rfl) (fun _=>rfl)) e6
   obtain⟨z,hz,hzz⟩:=bndS_z h
   rcases cnd_some hz with⟨rfl,hz⟩ | ⟨rfl,hz⟩
   ·exact ihx n'.fst { st with wr:=[] } _ z U M a w Q hz hd.1 hr0 hf (post _ hzz z rfl)
   ·exact ihy n'.snd { st with wr:=[] } _ z U M a w Q hz hd.2 hr0 hf (post _ hzz z rfl)
  ·refine wp_cond hq ?_
   rcases cnd_some h with⟨rfl,h⟩ | ⟨rfl,h⟩
   ·exact ihx _ st K r U M a w Q h hd.1 hr hf hp
   ·exact ihy _ st K r U M a w Q h hd.2 hr hf hp
 | block id c ih =>
  intro n R st K r U M a w Q h hd hr hf hp
  simp only[dstOk] at hd
  simp only[ev] at h
  have hr0:Rel P w0 I nt U M { st with wr:=[] } a w:=hr.congr (fun _=>rfl) (fun _=>rfl) (fun _=>rfl)
  have hblk:∀ (id':Nat) a' w',Nat.beq id id'=false->Q (.exit id') a' w'->Exit.inBlock id Q (.exit id') a' w':=fun id' a' w' hb hq=>by
   simp only[Exit.inBlock]
   rw[if_neg (fun e=>by subst e;simp at hb)]
   exact hq
  have hblk0:∀ (id':Nat) a' w',Nat.beq id id'=true->Q .normal a' w'->Exit.inBlock id Q (.exit id') a' w':=fun id' a' w' hb hq=>by
   simp only[Exit.inBlock]
   rw[if_pos (Nat.eq_of_beq_eq_true hb).symm]
   exact hq
  split at h
  ·rename_i j n'
   obtain⟨z,hz,hK⟩:=bnd_some h
   refine wp_block (ih n' { st with wr:=[] } _ z U M a w _ hz hd hr0 hf fun e st' U' M' a' w' e1 e2 e3 e4 e5 e6=>?_)
   cases e with
   | normal =>
    show Q .normal a' w'
    exact join_post hr.inU hf hp e1 hK e2 e3 e4 e5
   | exit id' =>
    dsimp only at e1
    split at e1
    ·rename_i hb
     exact hblk0 id' a' w' hb (join_post hr.inU hf hp e1 hK e2 e3 e4 e5)
    ·cases e1
   | ret=>cases e1
  ·rename_i j n'
   obtain⟨z,hz,hzz⟩:=bndS_z h
   have hfin:∀ st' U' M' a' w',(match endJ { st with wr:=[] } st' j with
      | some x=>(inlE x:Option (JD j.js ⊕ R))
      | none=>none)=some z->WrOk { st with wr:=[] } st'->(∀ k,U k->U' k)->Agree U M M'->Rel P w0 I nt U' M' st' a' w'->Q .normal a' w':=fun st' U' M' a' w' e1 e2 e3 e4 e5=>by
    split at e1
    ·rename_i x' hx'
     cases e1
     rcases hzz with⟨x,hz,hK⟩ | hz
     ·cases hz
      exact join_post hr.inU hf hp hx' hK e2 e3 e4 e5
     ·cases hz
    ·cases e1
   have hout:∀ (e:Ex) st' U' M' a' w',(inrE (K e { st' with wr:=st'.wr++st.wr }):Option (JD j.js ⊕ R))=some z->WrOk { st with wr:=[] } st'->(∀ k,U k->U' k)->Agree U M M'->Rel P w0 I nt U' M' st' a' w'->(∀ k,st'.cnt<=k->¬ U' k)->Q (exOf e) a' w':=fun e st' U' M' a' w' e1 e2 e3 e4 e5 e6=>by
    obtain⟨r',hr',e1⟩:=inrE_some e1
    subst e1
    rcases hzz with⟨x,hz,hK⟩ | hz
    ·cases hz
    ·cases hz
     exact hp _ _ U' M' a' w' hr' e2.outer e3 e4 (e5.congr (fun _=>rfl) (fun _=>rfl) (fun _=>rfl)) e6
   refine wp_block (ih n' { st with wr:=[] } _ z U M a w _ hz hd hr0 hf fun e st' U' M' a' w' e1 e2 e3 e4 e5 e6=>?_)
   cases e with
   | normal=>exact hfin st' U' M' a' w' e1 e2 e3 e4 e5
   | exit id' =>
    dsimp only at e1
    split at e1
    ·rename_i hb;exact hblk0 id' a' w' hb (hfin st' U' M' a' w' e1 e2 e3 e4 e5)
    ·rename_i hb;exact hblk id' a' w' hb (hout (.exit id') st' U' M' a' w' e1 e2 e3 e4 e5 e6)
   | ret=>exact hout .ret st' U' M' a' w' e1 e2 e3 e4 e5 e6
  ·refine wp_block (ih _ st _ r U M a w _ h hd hr hf fun e st' U' M' a' w' e1 e2 e3 e4 e5 e6=>?_)
   cases e with
   | normal=>exact hp .normal st' U' M' a' w' e1 e2 e3 e4 e5 e6
   | exit id' =>
    dsimp only at e1
    split at e1
    ·rename_i hb;exact hblk0 id' a' w' hb (hp .normal st' U' M' a' w' e1 e2 e3 e4 e5 e6)
    ·rename_i hb;exact hblk id' a' w' hb (hp (.exit id') st' U' M' a' w' e1 e2 e3 e4 e5 e6)
   | ret=>exact hp .ret st' U' M' a' w' e1 e2 e3 e4 e5 e6
 | loop c ih =>
  intro n R st K r U M a w Q h hd hr hf hp
  simp only[dstOk] at hd
  simp only[ev] at h
  have hr0:Rel P w0 I nt U M { st with wr:=[] } a w:=hr.congr (fun _=>rfl) (fun _=>rfl) (fun _=>rfl)
  have hlt:∀ k,U k->k<st.cnt:=fun k hk=>by
   rcases Nat.lt_or_ge k st.cnt with h | h
   ·exact h
   ·exact(hf k h hk).elim
  split at h
  ·rename_i j n'
   split at h
   ·rename_i x0 hx0
    obtain⟨N,hN⟩:=loopP_some h
    refine wp_loop_rounds N ?_
    obtain⟨M0,g1,g2,g3⟩:=join_ok hr0 (st:={ st with wr:=[] }) hr0.inU hlt (fun _ h=>h) hx0 (WrOk.refl _)
    have key:∀ (N:Nat) (x:JD j.js) (M1:Mp) (a:Act) (w:World),loopN (fun x:JD j.js=>ev E c n' (joinSt { st with wr:=[] } j x) fun e st'=>match e with
      | .normal=>match endJ { st with wr:=[] } st' j with
       | some y=>inlE y
       | none=>none
      | e=>(inrE (K e { st' with wr:=st'.wr++st.wr }):Option (JD j.js ⊕ R))) N x=some r->Agree U M M1->Rel P w0 I nt (·<j.cnt) M1 (joinSt { st with wr:=[] } j x) a w->Code.rounds P c Q N a w:=by
     intro N
     induction N with
     | zero=>intro x M1 a w h;cases h
     | succ N ihN =>
      intro x M1 a w h hA hrel
      simp only[loopN] at h
      rw[rounds_succ]
      have main:∀ z,(fun x:JD j.js=>ev E c n' (joinSt { st with wr:=[] } j x) fun e st'=>match e with
      | .normal=>match endJ { st with wr:=[] } st' j with
       | some y=>inlE y
       | none=>none
      | e=>(inrE (K e { st' with wr:=st'.wr++st.wr }):Option (JD j.js ⊕ R))) x=some z->(∀ y,z=.inl y->loopN (fun x:JD j.js=>ev E c n' (joinSt { st with wr:=[] } j x) fun e st'=>match e with
      | .normal=>match endJ { st with wr:=[] } st' j with
       | some y=>inlE y
       | none=>none
      | e=>(inrE (K e { st' with wr:=st'.wr++st.wr }):Option (JD j.js ⊕ R))) N y=some r)->(∀ r',z=.inr r'->r'=r)->c.wp P (Exit.then (Code.rounds P c Q N) Q) a w:=by
       intro z hz h1 h2
       refine ih n' _ _ z (·<j.cnt) M1 a w _ hz hd hrel (fun k hk=>by rw[joinSt_cnt] at hk;omega) fun e st' U' M' a' w' e1 e2 e3 e4 e5 e6=>?_
       have hW:WrOk { st with wr:=[] } st':=joinSt_ok.trans e2
       have hU':∀ k,U k->U' k:=fun k hk=>e3 k (Nat.lt_of_lt_of_le (hlt k hk) g3)
       have hA':Agree U M M':=hA.trans' (fun k hk=>Nat.lt_of_lt_of_le (hlt k hk) g3) e4
       cases e with
       | normal =>
        dsimp only at e1
        split at e1
        ·rename_i y hy
         cases e1
         obtain⟨M2,k1,k2,_⟩:=join_ok e5 (st:={ st with wr:=[] }) hr0.inU hlt hU' hy hW
         exact ihN y M2 a' w' (h1 y rfl) (hA'.trans' (fun _ h=>h) k1) k2
        ·cases e1
       | exit id =>
        obtain⟨r',hr',e1⟩:=inrE_some e1
        have:=h2 r' e1
        subst this
        exact hp (.exit id) _ U' M' a' w' hr' hW.outer hU' hA' (e5.congr (fun _=>rfl) (fun _=>rfl) (fun _=>rfl)) e6
       | ret =>
        obtain⟨r',hr',e1⟩:=inrE_some e1
        have:=h2 r' e1
        subst this
        exact hp .ret _ U' M' a' w' hr' hW.outer hU' hA' (e5.congr (fun _=>rfl) (fun _=>rfl) (fun _=>rfl)) e6
      split at h
      ·rename_i y hy
       exact main _ hy (fun y' e=>by cases e;exact h) (fun r' e=>by cases e)
      ·rename_i r' hy
       cases h
       exact main _ hy (fun y' e=>by cases e) (fun r' e=>by cases e;rfl)
      ·cases h
    exact key N x0 M0 a w hN g1 g2
   ·cases h
  ·cases h
 | exit id =>
  intro n R st K r U M a w Q h _ hr hf hp
  exact wp_exit (hp (.exit id) st U M a w h (WrOk.refl st) (fun _ k=>k) (Agree.refl _ _) hr hf)
 | ret =>
  intro n R st K r U M a w Q h _ hr hf hp
  exact wp_ret (hp .ret st U M a w h (WrOk.refl st) (fun _ k=>k) (Agree.refl _ _) hr hf)
 | _ =>
  intros
  rename_i h _ _ _ _
  simp [ev] at h
end
end Go.VX
/- VX, part 49: what a function hands back. -/
set_option linter.unusedVariables false
set_option linter.unusedSimpArgs false
namespace Go.VX
theorem finV_ty{st:St} {nf:Nat}:∀ (t:Ty) (s:Sh) (v:Vl) (m m':TM) (y:t.D),finV st nf t s v m=some (y,m')->v.ty=t
  | .sl e,s,v,m,m',y,h=>by
    simp only[finV] at h
    split at h
    · rename_i h1;exact of_decide_eq_true h1
    · cases h
  | .pr a b,s,v,m,m',y,h=>by
    obtain⟨tv,xv,sv⟩:=v
    cases tv with
    | pr a' b' =>
      simp only[finV] at h
      split at h
      · rename_i y1 m1 _ h1
        split at h
        · rename_i z m2 h2
          have e1:=finV_ty a _ _ _ _ _ h1
          have e2:=finV_ty b _ _ _ _ _ h2
          dsimp only at e1 e2 ⊢
          rw[e1,e2]
        · cases h
      · cases h
    | _ =>
      simp only[finV] at h
      split at h
      · rename_i x hx
        obtain⟨_,hx⟩:=castV_eq hx
        obtain⟨e,_⟩:=castTo_eq hx
        exact e
      · cases h
  | .int _,s,v,m,m',y,h | .bool,s,v,m,m',y,h | .str,s,v,m,m',y,h | .ptr,s,v,m,m',y,h | .unit,s,v,m,m',y,h | .ms _,s,v,m,m',y,h | .tu _ _,s,v,m,m',y,h | .fn _ _,s,v,m,m',y,h | .rref _,s,v,m,m',y,h | .eref,s,v,m,m',y,h | .mh,s,v,m,m',y,h | .nx,s,v,m,m',y,h=>by
    simp only[finV] at h
    split at h
    · rename_i x hx
      obtain⟨_,hx⟩:=castV_eq hx
      obtain⟨e,_⟩:=castTo_eq hx
      exact e
    · cases h
def FinLeaf(t:Ty) (s:Sh) (v:Vl) (y:t.D):Prop:=castV t v=some y/\(s=.o\/(s=v.sh/\shOk.noTok s=true))
theorem leaf_of{t:Ty} {s:Sh} {v:Vl} {y:t.D} {m m':TM} (h:(match castV t v with
    | some x=>match s with
      | .o=>some (x,m)
      | s=>match decide (s=v.sh)&&shOk.noTok s with
        | true=>some (x,m)
        | false=>none
    | none=>none)=some (y,m')):FinLeaf t s v y/\m'=m:=by
  split at h
  · rename_i x hx
    split at h
    · cases h;exact⟨⟨hx,.inl rfl⟩,rfl⟩
    · split at h
      · rename_i hc
        simp only[Bool.and_eq_true] at hc
        cases h
        exact⟨⟨hx,.inr ⟨of_decide_eq_true hc.1,hc.2⟩⟩,rfl⟩
      · cases h
  · cases h
inductive FinR (st:St) (nf:Nat):(t:Ty)->Sh->Vl->TM->t.D->TM->Prop
  | mm {e:Ty} {j k:Nat} {x:List e.D} {m:TM} {l:List e.D} {s:Sh}:look st.bx k=some (.rw ⟨.ms e,l,s⟩)->look m j=none->memT m k=false->FinR st nf (.sl e) (.mref j) ⟨.sl e,x,.mref k⟩ m l ((j,some k)::m)
  | om {e:Ty} {k:Nat} {x:List e.D} {m:TM} {l:List e.D} {s:Sh}:look st.bx k=some (.rw ⟨.ms e,l,s⟩)->look m (nf+k)=none->memT m k=false->FinR st nf (.sl e) .o ⟨.sl e,x,.mref k⟩ m l ((nf+k,some k)::m)
  | tn {e:Ty} {j:Nat} {x:List e.D} {m:TM}:look m j=none->FinR st nf (.sl e) (.tok j) ⟨.sl e,x,.nils⟩ m x ((j,none)::m)
  | tt {e:Ty} {j k:Nat} {x:List e.D} {m:TM}:look st.tk k=some true->look m j=none->memT m k=false->FinR st nf (.sl e) (.tok j) ⟨.sl e,x,.tok k⟩ m x ((j,some k)::m)
  | nn {e:Ty} {x:List e.D} {m:TM}:FinR st nf (.sl e) .nils ⟨.sl e,x,.nils⟩ m x m
  | oo {e:Ty} {x:List e.D} {s:Sh} {m:TM}:s.plain=true->FinR st nf (.sl e) .o ⟨.sl e,x,s⟩ m x m
  | pr {a b a' b':Ty} {x:a'.D×b'.D} {s w:Sh} {m m1 m2:TM} {y:a.D} {z:b.D}:s.isPr=true->FinR st nf a s.fst ⟨a',x.1,w.fst⟩ m y m1->FinR st nf b s.snd ⟨b',x.2,w.snd⟩ m1 z m2->FinR st nf (.pr a b) s ⟨.pr a' b',x,w⟩ m (y,z) m2
  | leaf {t:Ty} {s:Sh} {v:Vl} {m:TM} {y:t.D}:(∀ e,t≠.sl e)->FinLeaf t s v y->FinR st nf t s v m y m
theorem finV_R{st:St} {nf:Nat}:∀ (t:Ty) (s:Sh) (v:Vl) (m m':TM) (y:t.D),finV st nf t s v m=some (y,m')->FinR st nf t s v m y m'
  | .sl e,s,v,m,m',y,h=>by
    have hty:=finV_ty _ _ _ _ _ _ h
    obtain⟨tv,xv,sv⟩:=v
    dsimp only at hty
    subst hty
    simp only[finV,decide_true] at h
    split at h
    · split at h
      · rename_i c h1 h2 h3
        split at h
        · rename_i l hl
          cases h
          have hc:=castTo_vl hl
          rw[hc] at h1
          exact .mm h1 h2 h3
        · cases h
      · cases h
    · split at h
      · rename_i c h1 h2 h3
        split at h
        · rename_i l hl
          cases h
          have hc:=castTo_vl hl
          rw[hc] at h1
          exact .om h1 h2 h3
        · cases h
      · cases h
    · split at h
      · rename_i l hl h2
        cases h
        obtain⟨_,rfl⟩:=castTo_eq hl
        exact .tn h2
      · cases h
    · split at h
      · rename_i l hl h0 h2 h3
        cases h
        obtain⟨_,rfl⟩:=castTo_eq hl
        exact .tt h0 h2 h3
      · cases h
    · split at h
      · rename_i l hl
        cases h
        obtain⟨_,rfl⟩:=castTo_eq hl
        exact .nn
      · cases h
    · split at h
      · rename_i l hl hp
        cases h
        obtain⟨_,rfl⟩:=castTo_eq hl
        exact .oo hp
      · cases h
    · cases h
  | .pr a b,s,v,m,m',y,h=>by
    obtain⟨tv,xv,sv⟩:=v
    cases tv with
    | pr a' b' =>
      simp only[finV] at h
      split at h
      · rename_i y1 m1 hp h1
        split at h
        · rename_i z m2 h2
          cases h
          exact .pr hp (finV_R a _ _ _ _ _ h1) (finV_R b _ _ _ _ _ h2)
        · cases h
      · cases h
    | _ =>
      simp only[finV] at h
      obtain⟨h1,rfl⟩:=leaf_of h
      exact .leaf (fun e h=>by cases h) h1
  | .int _,s,v,m,m',y,h | .bool,s,v,m,m',y,h | .str,s,v,m,m',y,h | .ptr,s,v,m,m',y,h | .unit,s,v,m,m',y,h | .ms _,s,v,m,m',y,h | .tu _ _,s,v,m,m',y,h | .fn _ _,s,v,m,m',y,h | .rref _,s,v,m,m',y,h | .eref,s,v,m,m',y,h | .mh,s,v,m,m',y,h | .nx,s,v,m,m',y,h=>by
    simp only[finV] at h
    obtain⟨h1,rfl⟩:=leaf_of h
    exact .leaf (fun e h=>by cases h) h1
theorem FinR.ext{st:St} {nf:Nat} {t:Ty} {s:Sh} {v:Vl} {m m':TM} {y:t.D} (h:FinR st nf t s v m y m'):TmExt m m':=by
  induction h with
  | mm _ h _=>exact TmExt.add h
  | om _ h _=>exact TmExt.add h
  | tn h=>exact TmExt.add h
  | tt _ h _=>exact TmExt.add h
  | nn=>exact TmExt.refl _
  | oo _=>exact TmExt.refl _
  | pr _ _ _ h1 h2=>exact h1.trans h2
  | leaf _ _=>exact TmExt.refl _
theorem FinR.inj{st:St} {nf:Nat} {t:Ty} {s:Sh} {v:Vl} {m m':TM} {y:t.D} (h:FinR st nf t s v m y m'):TmInj m->TmInj m':=by
  induction h with
  | mm _ _ h=>exact fun hi=>hi.addT h
  | om _ _ h=>exact fun hi=>hi.addT h
  | tn _=>exact fun hi=>hi.addN
  | tt _ _ h=>exact fun hi=>hi.addT h
  | nn=>exact fun hi=>hi
  | oo _=>exact fun hi=>hi
  | pr _ _ _ h1 h2=>exact fun hi=>h2 (h1 hi)
  | leaf _ _=>exact fun hi=>hi
theorem FinR.toks{st:St} {nf:Nat} {t:Ty} {s:Sh} {v:Vl} {m m':TM} {y:t.D} (h:FinR st nf t s v m y m'):∀ j∈toksOf s,∃ q,look m' j=some q/\∀ k,q=some k->look st.tk k=some true:=by
  induction h with
  | mm _ _ _=>intro j hj;simp [toksOf] at hj
  | om _ _ _=>intro j hj;simp [toksOf] at hj
  | @tn e j x m h =>
    intro j' hj
    simp only[toksOf,List.mem_singleton] at hj
    subst hj
    exact⟨none,by rw[look_cons,if_pos rfl],fun k e=>by cases e⟩
  | @tt e j k x m h0 h1 h2 =>
    intro j' hj
    simp only[toksOf,List.mem_singleton] at hj
    subst hj
    exact⟨some k,by rw[look_cons,if_pos rfl],fun k' e=>by cases e;exact h0⟩
  | nn=>intro j hj;simp [toksOf] at hj
  | oo _=>intro j hj;simp [toksOf] at hj
  | @pr a b a' b' x s w m m1 m2 y z hp h1 h2 ih1 ih2 =>
    intro j hj
    cases s with
    | pr s1 s2 =>
      rcases List.mem_append.1 hj with hj | hj
      · obtain⟨q,e1,e2⟩:=ih1 j hj
        exact⟨q,h2.ext.ext _ _ e1,e2⟩
      · exact ih2 j hj
    | o=>simp [toksOf] at hj
    | _=>cases hp
  | leaf _ h =>
    intro j hj
    rcases h.2 with rfl | ⟨_,h2⟩
    · simp [toksOf] at hj
    · rw[noTok_nil _ h2] at hj;cases hj
theorem FinR.rows{st:St} {nf:Nat} {t:Ty} {s:Sh} {v:Vl} {m m':TM} {y:t.D} (h:FinR st nf t s v m y m'):∀ j z,(j,z)∈msOf 0 t y s->∃ k e l sc,look m' j=some (some k)/\look st.bx k=some (.rw ⟨.ms e,l,sc⟩)/\z=.rw ⟨.ms e,l,.o⟩:=by
  induction h with
  | @mm e j k x m l sc h1 h2 h3 =>
    intro j' z hj
    simp only[msOf,Nat.zero_add,List.mem_singleton] at hj
    cases hj
    exact⟨k,e,l,sc,by rw[look_cons,if_pos rfl],h1,rfl⟩
  | om _ _ _=>intro j z hj;simp [msOf] at hj
  | tn _=>intro j z hj;simp [msOf] at hj
  | tt _ _ _=>intro j z hj;simp [msOf] at hj
  | nn=>intro j z hj;simp [msOf] at hj
  | oo _=>intro j z hj;simp [msOf] at hj
  | @pr a b a' b' x s w m m1 m2 y z hp h1 h2 ih1 ih2 =>
    intro j zz hj
    cases s with
    | pr s1 s2 =>
      simp only[msOf,List.mem_append] at hj
      rcases hj with hj | hj
      · obtain⟨k,e,l,sc,e1,e2,e3⟩:=ih1 j zz hj
        exact⟨k,e,l,sc,h2.ext.ext _ _ e1,e2,e3⟩
      · exact ih2 j zz hj
    | o=>simp [msOf] at hj
    | _=>cases hp
  | @leaf t s v m y hsl h =>
    intro j z hj
    rcases h.2 with rfl | ⟨h1,h2⟩
    · rw[msOf_o] at hj;cases hj
    · obtain⟨hpl,_⟩:=castV_eq h.1
      exfalso
      rw[← h1] at hpl
      have key:∀ (t:Ty) (y:t.D) (s:Sh),s.plain=true->msOf 0 t y s=[]:=by
        intro t
        induction t with
        | sl e=>intro y s hs;cases s<;>first | rfl | cases hs
        | pr a b iha ihb =>
          intro y s hs
          cases s<;>first
            | rfl
            | (simp only[Sh.plain,Bool.and_eq_true] at hs
               simp only[msOf,iha _ _ hs.1,ihb _ _ hs.2,List.append_nil])
        | tu a b iha ihb =>
          intro y s hs
          cases s<;>first
            | rfl
            | (simp only[Sh.plain,Bool.and_eq_true] at hs
               simp only[msOf,iha _ _ hs.1,ihb _ _ hs.2,List.append_nil])
        | _=>intro y s hs;rfl
      rw[key _ _ _ hpl] at hj
      cases hj
def MpOut(M:Mp) (mf:TM) (mk:List Nat):Mp where
  tok:=(M.named mf).tok
  row:=fun j=>if j∈mk then(match look mf j with | some (some k)=>M.row k | _=>M.row j) else M.row j
  box:=fun j=>if j∈mk then(match look mf j with | some (some k)=>M.box k | _=>M.box j) else M.box j
  fr:=M.fr
theorem MpOut_mk{M:Mp} {mf:TM} {mk:List Nat} {j k:Nat} (hj:j∈mk) (h:look mf j=some (some k)):(MpOut M mf mk).row j=M.row k/\(MpOut M mf mk).box j=M.box k:=by simp [MpOut,hj,h]
theorem MpOut_out{M:Mp} {mf:TM} {mk:List Nat} {j:Nat} (hj:j ∉ mk):(MpOut M mf mk).row j=M.row j/\(MpOut M mf mk).box j=M.box j:=by simp [MpOut,hj]
theorem shOut_ag{M:Mp} {mf:TM} {ks mk:List Nat} {nf:Nat} (hd:∀ k∈ks,k ∉ mk):∀ s:Sh,shOut ks nf s=true->shOk.noTok s=true->s.plain=true->ShAg M (MpOut M mf mk) s
  | .tok _,_,h,_=>by cases h
  | .mref _,_,_,h=>by cases h
  | .elem _ _ _ _ _ _,h,_,_=>by cases h
  | .box k _ _,h,_,_=>(MpOut_out (hd k (memNat_true h))).2
  | .pr a b,h1,h2,h3=>by
    simp only[shOut,shOk.noTok,Sh.plain,Bool.and_eq_true] at h1 h2 h3
    exact⟨shOut_ag hd a h1.1 h2.1 h3.1,shOut_ag hd b h1.2 h2.2 h3.2⟩
  | .o,_,_,_ | .nilp,_,_,_ | .nils,_,_,_=>trivial
theorem FinR.rep{P:Program} {w0:World} {I:Own} {nt:Nat} {U:Nat->Prop} {M:Mp} {st:St} {a:Act} {w:World} (hrel:Rel P w0 I nt U M st a w) {nf:Nat} {mf:TM} {ks mk:List Nat} {O':Own} (hO:∀ b o,O' b o->own st M b o)
    (hd:∀ k∈ks,k ∉ mk) (hdead:∀ k cv,look mf (nf+k)=some (some k)->look st.bx k=some (.rw cv)->isMs cv.ty=true->∀ b o,inBox M k cv.ty b o->¬ O' b o) {t:Ty} {s:Sh} {v:Vl} {m m':TM} {y:t.D} (h:FinR st nf t s v m y m') :
    TmExt m' mf->(∀ j∈mkeys t s,j∈mk)->shOut ks nf s=true->v.ty.tup=false->∀ cs,RepC P v.ty w (own st M) M v.val v.sh cs->RepC P t w O' (MpOut M mf mk) y s cs:=by
  induction h with
  | @mm e j k x m l sc h1 h2 h3 =>
    intro hm hk hs ht cs r
    obtain⟨pa,n,c,e1,e2,e3,e4,e5⟩:=r
    obtain⟨t0,a',n',c',k1,k2,k3,k4,k5⟩:=(hrel.bx _ _ h1).1
    dsimp only[SlSh] at e5
    rw[e5] at k1
    cases k1
    refine⟨pa,n,c,e1,k2,e3,e4,?_⟩
    show(MpOut M mf mk).row j=_
    rw[(MpOut_mk (hk j (by simp [mkeys])) (hm.ext _ _ (by rw[look_cons,if_pos rfl]))).1]
    exact e5
  | @om e k x m l sc h1 h2 h3 =>
    intro hm hk hs ht cs r
    obtain⟨pa,n,c,e1,e2,e3,e4,e5⟩:=r
    have hb:=(hrel.bx _ _ h1).1
    have hb0:=hb
    obtain⟨t0,a',n',c',k1,k2,k3,k4,k5⟩:=hb
    dsimp only[SlSh] at e5
    rw[e5] at k1
    cases k1
    refine⟨pa,n,c,e1.o,k2,e3,e4,fun p hp i z hi=>?_⟩
    obtain⟨es,f1,f2,f3⟩:=(k5 p hp).2 i z hi
    refine⟨es,f1,fun j u hj=>⟨f2 j u hj,?_⟩,f3.mono P _ (Ext.refl _ _) (fun b o _=>hO b o) trivial⟩
    have hj':j<e.size:=f1 ▸ (List.getElem?_eq_some_iff.1 hj).1
    exact hdead k _ (hm.ext _ _ (by rw[look_cons,if_pos rfl])) h1 rfl _ _ (row_in hb0 (by rw[e5,hp]) (List.getElem?_eq_some_iff.1 hi).1 hj')
  | @tn e j x m h1 =>
    intro hm hk hs ht cs r
    obtain⟨pa,n,c,e1,e2,e3,e4,e5⟩:=r
    dsimp only[SlSh] at e5
    subst e5
    refine⟨none,n,c,e1,e2,e3,e4,fun p hp=>(by cases hp),.inr ⟨rfl,?_⟩⟩
    exact named_none (hm.ext _ _ (by rw[look_cons,if_pos rfl]))
  | @tt e j k x m h0 h1 h2 =>
    intro hm hk hs ht cs r
    obtain⟨pa,n,c,e1,e2,e3,e4,e5⟩:=r
    dsimp only[SlSh] at e5
    refine⟨pa,n,c,e1,e2,e3,e4,fun p hp=>(e5.1 p hp).imp (Ext.refl _ _) (fun b o _=>hO b o) (fun y es hy=>hy.mono P _ (Ext.refl _ _) (fun b o _=>hO b o) trivial),e5.2.ren ?_⟩
    exact named_some (hm.ext _ _ (by rw[look_cons,if_pos rfl]))
  | @nn e x m =>
    intro hm hk hs ht cs r
    obtain⟨pa,n,c,e1,e2,e3,e4,e5⟩:=r
    exact⟨pa,n,c,e1,e2,e3,e4,e5⟩
  | @oo e x s m hp =>
    intro hm hk hs ht cs r
    exact(r.forget (.sl e) hp (MpOut M mf mk)).mono P (.sl e) (Ext.refl _ _) (fun b o _=>hO b o) trivial
  | @pr a b a' b' x s w1 m m1 m2 y z hp h1 h2 ih1 ih2 =>
    intro hm hk hs ht cs r
    obtain⟨c1,c2,e,l1,l2,t1,t2,r1,r2⟩:=r
    have hs1:shOut ks nf s.fst=true:=by cases s<;>first | rfl | (simp only[shOut,Bool.and_eq_true] at hs;exact hs.1) | cases hp
    have hs2:shOut ks nf s.snd=true:=by cases s<;>first | rfl | (simp only[shOut,Bool.and_eq_true] at hs;exact hs.2) | cases hp
    have hmk1:∀ j∈mkeys a s.fst,j∈mk:=fun j hj=>hk j (by
      cases s with
      | pr s1 s2=>exact List.mem_append_left _ hj
      | o=>cases a<;>simp [mkeys,Sh.fst] at hj
      | _=>cases hp)
    have hmk2:∀ j∈mkeys b s.snd,j∈mk:=fun j hj=>hk j (by
      cases s with
      | pr s1 s2=>exact List.mem_append_right _ hj
      | o=>cases b<;>simp [mkeys,Sh.snd] at hj
      | _=>cases hp)
    have g1:=ih1 (h2.ext.trans hm) hmk1 hs1 t1 c1 r1
    have g2:=ih2 hm hmk2 hs2 t2 c2 r2
    have ty1:∀ {t:Ty} {s:Sh} {v:Vl} {m m':TM} {y:t.D},FinR st nf t s v m y m'->v.ty=t:=by
      intro t s v m m' y h
      induction h with
      | pr _ _ _ e1 e2=>dsimp only at e1 e2 ⊢;rw[e1,e2]
      | leaf _ h=>obtain⟨_,hx⟩:=castV_eq h.1;obtain⟨e,_⟩:=castTo_eq hx;exact e
      | _=>rfl
    have e1:=ty1 h1
    have e2:=ty1 h2
    dsimp only at e1 e2
    exact⟨c1,c2,e,by rw[← e1];exact l1,by rw[← e2];exact l2,by rw[← e1];exact t1,by rw[← e2];exact t2,g1,g2⟩
  | @leaf t s v m y hsl hl =>
    intro hm hk hs ht cs r
    obtain⟨hpl,hx⟩:=castV_eq hl.1
    have hv:=castTo_vl hx
    obtain⟨tv,xv,sv⟩:=v
    dsimp only at hv hpl r
    cases hv
    rcases hl.2 with rfl | ⟨h1,h2⟩
    · exact(r.forget t hpl (MpOut M mf mk)).mono P t (Ext.refl _ _) (fun b o _=>hO b o) trivial
    · dsimp only at h1
      subst h1
      exact r.mono P t (Ext.refl _ _) (fun b o _=>hO b o) (shOut_ag hd _ hs h2 hpl)
end Go.VX
/- VX, part 50: what a function hands back: the state. -/
set_option linter.unusedVariables false
set_option linter.unusedSimpArgs false
namespace Go.VX
theorem finN_mem{st:St} {nf:Nat}:∀ (nb:List (Nat×Ty×Sh)) (m mf:TM) (x:(tuL (nbL nb)).D),finN st nf nb m=some (x,mf)->TmExt m mf/\(TmInj m->TmInj mf) /\
  (∀ n z,(n,z)∈outBxN nb x->∃ t s y c mi mi',z=.rw ⟨t,y,s⟩/\(n,t,s)∈nb/\look st.bx n=some (.rw c)/\FinR st nf t s c mi y mi'/\TmExt mi' mf) /\
  (∀ j∈nb.flatMap fun b=>toksOf b.2.2,∃ q,look mf j=some q/\∀ k,q=some k->look st.tk k=some true)
 | [],m,mf,x,h=>by
  simp only[finN,Option.some.injEq,Prod.mk.injEq] at h
  obtain⟨rfl,rfl⟩:=h
  exact⟨TmExt.refl _,fun h=>h,fun n z h=>by simp [outBxN] at h,fun j hj=>by simp at hj⟩
 | (j,t,s)::nb,m,mf,x,h=>by
  simp only[finN] at h
  split at h
  ·rename_i c hc
   split at h
   ·rename_i y m1 h1
    split at h
    ·rename_i z m2 h2
     cases h
     have hR:=finV_R _ _ _ _ _ _ h1
     obtain⟨k1,k2,k3,k4⟩:=finN_mem nb m1 mf z h2
     refine⟨hR.ext.trans k1,fun hi=>k2 (hR.inj hi),fun n zz hm=>?_,fun j' hj=>?_⟩
     ·rcases List.mem_cons.1 hm with e | hm
      ·cases e
       exact⟨t,s,y,c,m,m1,rfl,List.mem_cons_self,hc,hR,k1⟩
      ·obtain⟨t',s',y',c',mi,mi',e1,e2,e3⟩:=k3 n zz hm
       exact⟨t',s',y',c',mi,mi',e1,List.mem_cons_of_mem _ e2,e3⟩
     ·rw[List.flatMap_cons] at hj
      rcases List.mem_append.1 hj with hj | hj
      ·obtain⟨q,e1,e2⟩:=hR.toks j' hj
       exact⟨q,k1.ext _ _ e1,e2⟩
      ·exact k4 j' hj
    ·cases h
   ·cases h
  ·cases h
theorem finB_mem{st:St} {nf:Nat}:∀ (bs:List BoxS) (nb:List (Nat×Ty×Sh)) (i:Nat) (m mf:TM) (x:(tuL (outL bs nb)).D),finB st nf bs nb i m=some (x,mf)->TmExt m mf/\(TmInj m->TmInj mf) /\
  (∀ n z,(n,z)∈outBx bs nb i x->∃ t s y c mi mi',z=.rw ⟨t,y,s⟩/\((∃ b∈bs,b.ty=t/\b.sout=some s/\i<=n/\n<i+bs.length)\/(n,t,s)∈nb)/\look st.bx n=some (.rw c)/\FinR st nf t s c mi y mi'/\TmExt mi' mf) /\
  (∀ j∈outToks bs nb,∃ q,look mf j=some q/\∀ k,q=some k->look st.tk k=some true)
 | [],nb,i,m,mf,x,h=>by
  obtain⟨k1,k2,k3,k4⟩:=finN_mem nb m mf x h
  refine⟨k1,k2,fun n z hm=>?_,fun j hj=>k4 j (by simpa [outToks] using hj)⟩
  obtain⟨t,s,y,c,mi,mi',e1,e2,e3⟩:=k3 n z hm
  exact⟨t,s,y,c,mi,mi',e1,.inr e2,e3⟩
 | ⟨t,si,some s⟩::bs,nb,i,m,mf,x,h=>by
  simp only[finB] at h
  split at h
  ·rename_i c hc
   split at h
   ·rename_i y m1 h1
    split at h
    ·rename_i z m2 h2
     cases h
     have hR:=finV_R _ _ _ _ _ _ h1
     obtain⟨k1,k2,k3,k4⟩:=finB_mem bs nb (i+1) m1 mf z h2
     refine⟨hR.ext.trans k1,fun hi=>k2 (hR.inj hi),fun n zz hm=>?_,fun j' hj=>?_⟩
     ·rcases List.mem_cons.1 hm with e | hm
      ·cases e
       exact⟨t,s,y,c,m,m1,rfl,.inl ⟨_,List.mem_cons_self,rfl,rfl,Nat.le_refl _,by simp⟩,hc,hR,k1⟩
      ·obtain⟨t',s',y',c',mi,mi',e1,e2,e3⟩:=k3 n zz hm
       refine⟨t',s',y',c',mi,mi',e1,?_,e3⟩
       rcases e2 with⟨b,g1,g2,g3,g4,g5⟩ | e2
       ·exact .inl ⟨b,List.mem_cons_of_mem _ g1,g2,g3,by omega,by simp;omega⟩
       ·exact .inr e2
     ·have:outToks (⟨t,si,some s⟩::bs) nb=toksOf s++outToks bs nb:=by simp [outToks]
      rw[this] at hj
      rcases List.mem_append.1 hj with hj | hj
      ·obtain⟨q,e1,e2⟩:=hR.toks j' hj
       exact⟨q,k1.ext _ _ e1,e2⟩
      ·exact k4 j' hj
    ·cases h
   ·cases h
  ·cases h
 | ⟨t,si,none⟩::bs,nb,i,m,mf,x,h=>by
  have h:finB st nf bs nb (i+1) m=some (x,mf):=h
  obtain⟨k1,k2,k3,k4⟩:=finB_mem bs nb (i+1) m mf x h
  refine⟨k1,k2,fun n z hm=>?_,fun j hj=>k4 j (by simpa [outToks] using hj)⟩
  obtain⟨t',s',y',c',mi,mi',e1,e2,e3⟩:=k3 n z hm
  refine⟨t',s',y',c',mi,mi',e1,?_,e3⟩
  rcases e2 with⟨b,g1,g2,g3,g4,g5⟩ | e2
  ·exact .inl ⟨b,List.mem_cons_of_mem _ g1,g2,g3,by omega,by simp;omega⟩
  ·exact .inr e2
inductive FinLR (st:St) (nf:Nat):(t:Ty)->Sh->List Vl->TM->t.D->TM->Prop
 | nil {m:TM}:FinLR st nf .unit .o [] m () m
 | cons {a b:Ty} {s:Sh} {v:Vl} {vs:List Vl} {m m1 m2:TM} {y:a.D} {z:b.D}:s.isPr=true->FinR st nf a s.fst v m y m1->FinLR st nf b s.snd vs m1 z m2->FinLR st nf (.tu a b) s (v::vs) m (y,z) m2
theorem finL_R{st:St} {nf:Nat}:∀ (t:Ty) (s:Sh) (vs:List Vl) (m m':TM) (y:t.D),finL st nf t s vs m=some (y,m')->FinLR st nf t s vs m y m'
 | .unit,s,[],m,m',y,h=>by
  simp only[finL] at h
  split at h
  ·rename_i hs
   have hs:=of_decide_eq_true hs
   subst hs
   cases h
   exact .nil
  ·cases h
 | .unit,s,v::vs,m,m',y,h=>by cases h
 | .tu a b,s,[],m,m',y,h=>by cases h
 | .tu a b,s,v::vs,m,m',y,h=>by
  simp only[finL] at h
  split at h
  ·rename_i y1 m1 hp h1
   split at h
   ·rename_i z m2 h2
    cases h
    exact .cons hp (finV_R _ _ _ _ _ _ h1) (finL_R b _ _ _ _ _ h2)
   ·cases h
  ·cases h
 | .int _,s,vs,m,m',y,h | .bool,s,vs,m,m',y,h | .str,s,vs,m,m',y,h | .ptr,s,vs,m,m',y,h | .sl _,s,vs,m,m',y,h | .ms _,s,vs,m,m',y,h | .pr _ _,s,vs,m,m',y,h | .fn _ _,s,vs,m,m',y,h | .rref _,s,vs,m,m',y,h | .eref,s,vs,m,m',y,h | .mh,s,vs,m,m',y,h | .nx,s,vs,m,m',y,h=>by
  cases vs<;>simp [finL] at h
structure ResOk (st:St) (nf:Nat) (B:Ty) (s:Sh) (m:TM) (y:B.D) (m':TM):Prop where
 ext:TmExt m m'
 inj:TmInj m->TmInj m'
 toks:∀ j∈toksOf s,∃ q,look m' j=some q/\∀ k,q=some k->look st.tk k=some true
 rows:∀ j z,(j,z)∈msOf 0 B y s->∃ k e l sc,look m' j=some (some k)/\look st.bx k=some (.rw ⟨.ms e,l,sc⟩)/\z=.rw ⟨.ms e,l,.o⟩
theorem FinR.resOk{st:St} {nf:Nat} {t:Ty} {s:Sh} {v:Vl} {m m':TM} {y:t.D} (h:FinR st nf t s v m y m'):ResOk st nf t s m y m':=⟨h.ext,h.inj,h.toks,h.rows⟩
theorem FinLR.resOk{st:St} {nf:Nat} {t:Ty} {s:Sh} {vs:List Vl} {m m':TM} {y:t.D} (h:FinLR st nf t s vs m y m'):ResOk st nf t s m y m':=by
 induction h with
 | nil=>exact⟨TmExt.refl _,fun h=>h,fun j hj=>by simp [toksOf] at hj,fun j z hj=>by simp [msOf] at hj⟩
 | @cons a b s v vs m m1 m2 y z hp h1 h2 ih =>
  refine⟨h1.ext.trans ih.ext,fun hi=>ih.inj (h1.inj hi),fun j hj=>?_,fun j zz hj=>?_⟩
  ·cases s with
   | pr s1 s2 =>
    rcases List.mem_append.1 hj with hj | hj
    ·obtain⟨q,e1,e2⟩:=h1.toks j hj
     exact⟨q,ih.ext.ext _ _ e1,e2⟩
    ·exact ih.toks j hj
   | o=>simp [toksOf] at hj
   | _=>cases hp
  ·cases s with
   | pr s1 s2 =>
    simp only[msOf,List.mem_append] at hj
    rcases hj with hj | hj
    ·obtain⟨k,e,l,sc,e1,e2,e3⟩:=h1.rows j zz hj
     exact⟨k,e,l,sc,ih.ext.ext _ _ e1,e2,e3⟩
    ·exact ih.rows j zz hj
   | o=>simp [msOf] at hj
   | _=>cases hp
theorem FinR.ty{st:St} {nf:Nat} {t:Ty} {s:Sh} {v:Vl} {m m':TM} {y:t.D} (h:FinR st nf t s v m y m'):v.ty=t:=by
 induction h with
 | pr _ _ _ e1 e2=>dsimp only at e1 e2 ⊢;rw[e1,e2]
 | leaf _ h=>obtain⟨_,hx⟩:=castV_eq h.1;obtain⟨e,_⟩:=castTo_eq hx;exact e
 | _=>rfl
theorem FinLR.rep{P:Program} {w0:World} {I:Own} {nt:Nat} {U:Nat->Prop} {M:Mp} {st:St} {a:Act} {w:World} (hrel:Rel P w0 I nt U M st a w) {nf:Nat} {mf:TM} {ks mk:List Nat} {O':Own} (hO:∀ b o,O' b o->own st M b o)
  (hd:∀ k∈ks,k ∉ mk) (hdead:∀ k cv,look mf (nf+k)=some (some k)->look st.bx k=some (.rw cv)->isMs cv.ty=true->∀ b o,inBox M k cv.ty b o->¬ O' b o) {t:Ty} {s:Sh} {vs:List Vl} {m m':TM} {y:t.D} (h:FinLR st nf t s vs m y m') :
  TmExt m' mf->(∀ j∈mkeys t s,j∈mk)->shOut ks nf s=true->wfA t=true->∀ xs,ValsIn P w (own st M) M U vs xs->RepC P t w O' (MpOut M mf mk) y s xs:=by
 induction h with
 | nil =>
  intro _ _ _ _ xs hv
  cases xs with
  | nil=>rfl
  | cons x xs=>exact hv.elim
 | @cons a b s v vs m m1 m2 y z hp h1 h2 ih =>
  intro hm hk hs hwa xs hv
  cases xs with
  | nil=>exact hv.elim
  | cons x xs =>
   obtain⟨rv,sv,hv⟩:=hv
   simp only[wfA,Bool.and_eq_true] at hwa
   have hta:a.tup=false:=by
    have:=hwa.1
    cases a<;>first | rfl | cases this
   have hs1:shOut ks nf s.fst=true:=by cases s<;>first | rfl | (simp only[shOut,Bool.and_eq_true] at hs;exact hs.1) | cases hp
   have hs2:shOut ks nf s.snd=true:=by cases s<;>first | rfl | (simp only[shOut,Bool.and_eq_true] at hs;exact hs.2) | cases hp
   have hmk1:∀ j∈mkeys a s.fst,j∈mk:=fun j hj=>hk j (by
    cases s with
    | pr s1 s2=>exact List.mem_append_left _ hj
    | o=>cases a<;>simp [mkeys,Sh.fst] at hj
    | _=>cases hp)
   have hmk2:∀ j∈mkeys b s.snd,j∈mk:=fun j hj=>hk j (by
    cases s with
    | pr s1 s2=>exact List.mem_append_right _ hj
    | o=>cases b<;>simp [mkeys,Sh.snd] at hj
    | _=>cases hp)
   have hvt:=h1.ty
   have htv:v.ty.tup=false:=by rw[hvt];exact hta
   refine⟨x,xs,rfl,hta,?_,ih hm hmk2 hs2 hwa.2 xs hv⟩
   have:=(repV_of htv).1 rv
   have e:v.ty.agg=a.agg:=by rw[hvt]
   rw[← e]
   exact this.imp fun cs hc=>h1.rep hrel hO hd hdead (h2.resOk.ext.trans hm) hmk1 hs1 htv cs hc
end Go.VX
/- VX, part 51: a function keeps its contract. -/
set_option linter.unusedVariables false
set_option linter.unusedSimpArgs false
namespace Go.VX
theorem shOut_in{ks:List Nat} {nf:Nat} (hk:∀ k∈ks,k<nf):∀ s:Sh,shOut ks nf s=true->ShIn (·<nf) s
  | .tok k,h | .mref k,h=>Nat.lt_of_lt_of_le (Nat.le_of_ble_eq_true h) (Nat.le_refl _)
  | .box k _ _,h=>hk k (memNat_true h)
  | .elem _ _ _ _ _ _,h=>by cases h
  | .pr a b,h=>by
    simp only[shOut,Bool.and_eq_true] at h
    exact⟨shOut_in hk a h.1,shOut_in hk b h.2⟩
  | .o,_ | .nilp,_ | .nils,_=>trivial
theorem plain_mkeys:∀ (t:Ty) (s:Sh),s.plain=true->mkeys t s=[]
  | .sl e,s,h=>by cases s<;>first | rfl | cases h
  | .pr a b,s,h=>by
    cases s<;>first
      | rfl
      | (simp only[Sh.plain,Bool.and_eq_true] at h
         simp only[mkeys,plain_mkeys a _ h.1,plain_mkeys b _ h.2,List.append_nil])
  | .tu a b,s,h=>by
    cases s<;>first
      | rfl
      | (simp only[Sh.plain,Bool.and_eq_true] at h
         simp only[mkeys,plain_mkeys a _ h.1,plain_mkeys b _ h.2,List.append_nil])
  | .int _,_,_ | .bool,_,_ | .str,_,_ | .ptr,_,_ | .unit,_,_ | .ms _,_,_ | .fn _ _,_,_ | .rref _,_,_ | .eref,_,_ | .mh,_,_ | .nx,_,_=>rfl
structure WfO (c:Con):Prop where
  bsh:shOut (upTo c.bs.length 0++c.nb.map (·.1)) c.fr c.bsh=true
  bs:∀ b∈c.bs,∀ s,b.sout=some s->s.plain=true/\shOut (upTo c.bs.length 0++c.nb.map (·.1)) c.fr s=true
  nb:∀ b∈c.nb,b.2.1.std=true/\b.2.2.plain=true/\shOut (upTo c.bs.length 0++c.nb.map (·.1)) c.fr b.2.2=true
  tu:∀ a b,c.B=.tu a b->wfA (.tu a b)=true
theorem wfO_spec{c:Con} (h:wfO c=true):WfO c:=by
  simp only[wfO,Bool.and_eq_true] at h
  obtain⟨⟨⟨h1,h2⟩,h3⟩,h4⟩:=h
  refine⟨h1,fun b hb s hs=>?_,fun b hb=>?_,fun a b e=>by rw[e] at h4;exact h4⟩
  · have:=List.all_eq_true.1 h2 b hb
    rw[hs] at this
    simpa using this
  · have:=List.all_eq_true.1 h3 b hb
    simpa using this
theorem out_rel{P:Program} {w0:World} {I:Own} {nt:Nat} {U:Nat->Prop} {M:Mp} {st:St} {a:Act} {w:World} (h:Rel P w0 I nt U M st a w) {c:Con} (hw:WfC c) {y:c.R.D} {m1 mf:TM} {v:Value}
    (hres:ResOk st c.fr c.B c.bsh [] (conOut c.B (outL c.bs c.nb) y).1 m1) (hB:finB st c.fr c.bs c.nb 0 m1=some ((conOut c.B (outL c.bs c.nb) y).2,mf))
    (hv:∀ O':Own,(∀ b o,O' b o->own st M b o)->(∀ k cv,look mf (c.fr+k)=some (some k)->look st.bx k=some (.rw cv)->isMs cv.ty=true->∀ b o,inBox M k cv.ty b o->¬ O' b o)->c.B≠.unit ->
      RepV P c.B w O' (MpOut M mf (mkeys c.B c.bsh)) (conOut c.B (outL c.bs c.nb) y).1 c.bsh v) :
    Rel P w0 I 1 (·<c.fr) (MpOut M mf (mkeys c.B c.bsh)) (outSt c y) ⟨#[v],[]⟩ w/\∀ k,k<c.bs.length->(MpOut M mf (mkeys c.B c.bsh)).box k=M.box k:=by
  have hO:=wfO_spec hw.out
  obtain⟨b1,b2,b3,b4⟩:=finB_mem _ _ _ _ _ _ hB
  have hinj:TmInj mf:=b2 (hres.inj TmInj.nil)
  have hnd:=nodupN_spec hw.nodup
  rw[← List.append_assoc,List.nodup_append] at hnd
  have hks:∀ k∈upTo c.bs.length 0++c.nb.map (·.1),k ∉ mkeys c.B c.bsh:=fun k hk hm=>hnd.2.2 k hk k hm rfl
  have hkf:∀ k∈upTo c.bs.length 0++c.nb.map (·.1),k<c.fr:=fun k hk=>by
    rcases List.mem_append.1 hk with hk | hk
    · have:=mem_upTo.1 hk;have:=hw.le;have:=c.lo_le;omega
    · exact hw.lt k (List.mem_append_left _ hk)
  have hmf:∀ k∈mkeys c.B c.bsh,k<c.fr:=fun k hk=>hw.lt k (List.mem_append_right _ hk)
  have hbox:∀ k,k<c.bs.length->(MpOut M mf (mkeys c.B c.bsh)).box k=M.box k:=fun k hk=>(MpOut_out (hks k (List.mem_append_left _ (mem_upTo.2 ⟨by omega,by omega⟩)))).2
  have htok:∀ k,look (outSt c y).tk k=some true->k<c.fr/\∃ q,look mf k=some q/\∀ t,q=some t->look st.tk t=some true:=fun k hk=>by
    obtain⟨hk,_⟩:=look_true hk
    rcases List.mem_append.1 hk with hk | hk
    · obtain⟨q,e1,e2⟩:=hres.toks k hk
      refine⟨?_,q,b1.ext _ _ e1,e2⟩
      have:=shOut_in hkf _ hO.bsh
      have key:∀ s:Sh,ShIn (·<c.fr) s->∀ k∈toksOf s,k<c.fr:=by
        intro s
        induction s with
        | tok k=>intro h k' hk';simp only[toksOf,List.mem_singleton] at hk';subst hk';exact h
        | pr s t ihs iht=>intro h k' hk';rcases List.mem_append.1 hk' with hk' | hk';exact ihs h.1 k' hk';exact iht h.2 k' hk'
        | _=>intro h k' hk';simp [toksOf] at hk'
      exact key _ this k hk
    · obtain⟨q,e1,e2⟩:=b4 k hk
      refine⟨?_,q,e1,e2⟩
      have key:∀ s:Sh,ShIn (·<c.fr) s->∀ k∈toksOf s,k<c.fr:=by
        intro s
        induction s with
        | tok k=>intro h k' hk';simp only[toksOf,List.mem_singleton] at hk';subst hk';exact h
        | pr s t ihs iht=>intro h k' hk';rcases List.mem_append.1 hk' with hk' | hk';exact ihs h.1 k' hk';exact iht h.2 k' hk'
        | _=>intro h k' hk';simp [toksOf] at hk'
      simp only[outToks] at hk
      rcases List.mem_append.1 hk with hk | hk
      · obtain⟨b,hb,hk⟩:=List.mem_flatMap.1 hk
        cases hs:b.sout with
        | none=>rw[hs] at hk;simp at hk
        | some s=>rw[hs] at hk;exact key _ (shOut_in hkf _ (hO.bs b hb s hs).2) k hk
      · obtain⟨b,hb,hk⟩:=List.mem_flatMap.1 hk
        exact key _ (shOut_in hkf _ (hO.nb b hb).2.2) k hk
  have hbx:∀ n z,look (outSt c y).bx n=some z->(∃ t s yv cc mi mi',z=.rw ⟨t,yv,s⟩/\t.std=true/\s.plain=true/\shOut (upTo c.bs.length 0++c.nb.map (·.1)) c.fr s=true/\n∈upTo c.bs.length 0++c.nb.map (·.1)/\look st.bx n=some (.rw cc)/\FinR st c.fr t s cc mi yv mi'/\TmExt mi' mf) \/
      (∃ k e l sc,n∈mkeys c.B c.bsh/\look mf n=some (some k)/\look st.bx k=some (.rw ⟨.ms e,l,sc⟩)/\z=.rw ⟨.ms e,l,.o⟩):=fun n z hz=>by
    rcases List.mem_append.1 (look_mem hz) with hm | hm
    · left
      obtain⟨t,s,yv,cc,mi,mi',e1,e2,e3,e4,e5⟩:=b3 n z hm
      rcases e2 with⟨b,g1,g2,g3,g4,g5⟩ | e2
      · refine⟨t,s,yv,cc,mi,mi',e1,by rw[← g2];exact hw.std b g1,(hO.bs b g1 s g3).1,(hO.bs b g1 s g3).2,List.mem_append_left _ (mem_upTo.2 ⟨by omega,by omega⟩),e3,e4,e5⟩
      · obtain⟨g1,g2,g3⟩:=hO.nb _ e2
        exact⟨t,s,yv,cc,mi,mi',e1,g1,g2,g3,List.mem_append_right _ (List.mem_map.2 ⟨_,e2,rfl⟩),e3,e4,e5⟩
    · right
      obtain⟨k,e,l,sc,e1,e2,e3⟩:=hres.rows n z hm
      obtain⟨k',_,_,g1,_,_,g4⟩:=msOf_mem 0 _ _ _ hm
      rw[Nat.zero_add] at g1
      subst g1
      exact⟨k,e,l,sc,g4,b1.ext _ _ e1,e2,e3⟩
  have hreg:∀ l b o,reg (outSt c y) (MpOut M mf (mkeys c.B c.bsh)) l b o->∃ l0,reg st M l0 b o/\((l=.s 0/\l0=.s 0)\/(∃ n cc,l=.b n/\l0=.b n/\look st.bx n=some (.rw cc)/\isMs cc.ty=false)\/(∃ n k cc,l=.b n/\n∈mkeys c.B c.bsh/\look mf n=some (some k)/\l0=.b k/\look st.bx k=some (.rw cc)/\isMs cc.ty=true) \/
      (∃ j k,l=.t j/\look mf j=some (some k)/\l0=.t k)):=by
    intro l b o hl
    rcases l with(_ | n) | n | j
    · exact⟨.s 0,hl,.inl ⟨rfl,rfl⟩⟩
    · exact hl.elim
    · obtain⟨v',hv',hin⟩:=hl
      rcases hbx n _ hv' with⟨t,s,yv,cc,mi,mi',e1,e2,e3,e4,e5,e6,e7,e8⟩ | ⟨k,e,l,sc,e1,e2,e3,e4⟩
      · cases e1
        have hty:=e7.ty
        have hms:=(std_ms e2).1
        refine⟨.b n,⟨cc,e6,?_⟩,.inr (.inl ⟨n,cc,rfl,rfl,e6,by rw[hty];exact hms⟩)⟩
        rw[inBox.plain hms,(MpOut_out (hks n e5)).2] at hin
        rw[inBox.plain (by rw[hty];exact hms),hty]
        exact hin
      · cases e4
        refine⟨.b k,⟨_,e3,?_⟩,.inr (.inr (.inl ⟨n,k,_,rfl,e1,e2,rfl,e3,rfl⟩))⟩
        obtain⟨r1,r2⟩:=MpOut_mk (M:=M) e1 e2
        unfold inBox at hin ⊢
        dsimp only at hin ⊢
        rw[r1] at hin
        exact hin
    · obtain⟨hk,hin⟩:=hl
      obtain⟨_,q,hq,hq2⟩:=htok j hk
      cases q with
      | none =>
        obtain⟨q,g1,_⟩:=hin
        rw[show(MpOut M mf (mkeys c.B c.bsh)).tok j=(M.named mf).tok j from rfl,named_none hq] at g1
        cases g1
      | some k =>
        refine⟨.t k,⟨hq2 k rfl,?_⟩,.inr (.inr (.inr ⟨j,k,rfl,hq,rfl⟩))⟩
        unfold inTok at hin ⊢
        rw[show(MpOut M mf (mkeys c.B c.bsh)).tok j=(M.named mf).tok j from rfl,named_some hq] at hin
        exact hin
  have hown:∀ b o,own (outSt c y) (MpOut M mf (mkeys c.B c.bsh)) b o->own st M b o:=fun b o ⟨l,hl⟩=>by
    obtain⟨l0,h1,_⟩:=hreg l b o hl
    exact⟨l0,h1⟩
  have hdead:∀ k cv,look mf (c.fr+k)=some (some k)->look st.bx k=some (.rw cv)->isMs cv.ty=true->∀ b o,inBox M k cv.ty b o->¬ own (outSt c y) (MpOut M mf (mkeys c.B c.bsh)) b o:=by
    rintro k cv hk hcv hcm b o hin ⟨l,hl⟩
    obtain⟨l0,h1,h2⟩:=hreg l b o hl
    have e:=h.dis _ _ _ _ h1 (show reg st M (.b k) b o from⟨cv,hcv,hin⟩)
    subst e
    rcases h2 with⟨_,e⟩ | ⟨n,cc,e1,e2,e3,e4⟩ | ⟨n,k',cc,e1,e2,e3,e4,e5,e6⟩ | ⟨j,k',_,_,e⟩
    · cases e
    · cases e2
      rw[hcv] at e3
      cases e3
      rw[hcm] at e4
      cases e4
    · cases e4
      have:=hinj.inj _ _ _ hk e3
      have:=hmf n e2
      omega
    · cases e
  refine⟨⟨fun n u hn=>?_,fun n u hn=>?_,fun n z u hn=>?_,fun k hk=>(htok k hk).1,fun b o hb=>h.live b o (hown b o hb),fun l l' b o h1 h2=>?_,h.keep,rfl,rfl,fun n u hn ht=>by rw[outSt_tup hw hn] at ht;cases ht⟩,hbox⟩
  · have key:c.B≠.unit/\n=0/\u=⟨c.B,(conOut c.B (outL c.bs c.nb) y).1,c.bsh⟩:=by
      unfold outSt at hn
      clear hv hdead hown hreg hbx htok hbox hres hB
      obtain⟨A,ash,bs,B,bsh,nb,fr,F⟩:=c
      dsimp only at *
      generalize (conOut B (outL bs nb) y).1=z at *
      cases B<;>first
        | (cases hn;done)
        | (rw[look_cons] at hn
           split at hn
           · rename_i e;subst e;cases hn;exact⟨by simp,rfl,rfl⟩
           · cases hn)
    obtain⟨k1,rfl,rfl⟩:=key
    exact⟨by simpa [Array.getD_eq_getD_getElem?] using hv _ hown hdead k1,shOut_in hkf _ hO.bsh⟩
  · rcases hbx n _ hn with⟨t,s,yv,cc,mi,mi',e1,e2,e3,e4,e5,e6,e7,e8⟩ | ⟨k,e,l,sc,e1,e2,e3,e4⟩
    · cases e1
      have hty:=e7.ty
      obtain⟨hms,htu⟩:=std_ms e2
      have hb:=(h.bx _ _ e6).1
      obtain⟨ht,cs,r,k⟩:=(BoxOk.plain (by rw[hty];exact hms)).1 hb
      have r':=e7.rep h hown hks hdead e8 (fun j hj=>by rw[plain_mkeys _ _ e3] at hj;cases hj) e4 ht cs r
      refine⟨(BoxOk.plain (v:=⟨t,yv,s⟩) hms).2 ⟨htu,cs,r',?_⟩,shOut_in hkf _ e4,hkf n e5⟩
      rw[(MpOut_out (hks n e5)).2]
      exact k
    · cases e4
      obtain⟨t0,a',n',c',k1,k2,k3,k4,k5⟩:=(h.bx _ _ e3).1
      obtain⟨r1,r2⟩:=MpOut_mk (M:=M) e1 e2
      refine⟨⟨t0,a',n',c',r1.trans k1,k2,k3,k4,fun p hp=>⟨r2.trans (k5 p hp).1,fun i z hi=>?_⟩⟩,trivial,hmf n e1⟩
      obtain⟨es,f1,f2,f3⟩:=(k5 p hp).2 i z hi
      exact⟨es,f1,f2,f3.mono P _ (Ext.refl _ _) (fun b o _=>hown b o) trivial⟩
  · rcases hbx n _ hn with⟨t,s,yv,cc,mi,mi',e1,_⟩ | ⟨k,e,l,sc,e1,e2,e3,e4⟩
    · cases e1
    · cases e4
  · obtain⟨l0,k1,k2⟩:=hreg l b o h1
    obtain⟨l0',k3,k4⟩:=hreg l' b o h2
    have e:=h.dis _ _ _ _ k1 k3
    subst e
    rcases k2 with⟨f1,f2⟩ | ⟨n,cc,f1,f2,f3,f4⟩ | ⟨n,k,cc,f1,f2,f3,f4,f5,f6⟩ | ⟨j,k,f1,f2,f3⟩ <;>
      rcases k4 with⟨g1,g2⟩ | ⟨n',cc',g1,g2,g3,g4⟩ | ⟨n',k',cc',g1,g2,g3,g4,g5,g6⟩ | ⟨j',k',g1,g2,g3⟩
    · rw[f1,g1]
    · rw[f2] at g2;cases g2
    · rw[f2] at g4;cases g4
    · rw[f2] at g3;cases g3
    · rw[f2] at g2;cases g2
    · rw[f2] at g2;cases g2;rw[f1,g1]
    · rw[f2] at g4;cases g4
      rw[f3] at g5;cases g5
      rw[f4] at g6;cases g6
    · rw[f2] at g3;cases g3
    · rw[f4] at g2;cases g2
    · rw[f4] at g2;cases g2
      rw[f5] at g3;cases g3
      rw[f6] at g4;cases g4
    · rw[f4] at g4;cases g4
      rw[f1,g1,hinj.inj _ _ _ f3 g3]
    · rw[f4] at g3;cases g3
    · rw[f3] at g2;cases g2
    · rw[f3] at g2;cases g2
    · rw[f3] at g4;cases g4
    · rw[f3] at g3;cases g3
      rw[f1,g1,hinj.inj _ _ _ f2 g2]
end Go.VX
/- VX, part 52: a function keeps its contract: the theorem. -/
set_option linter.unusedVariables false
set_option linter.unusedSimpArgs false
namespace Go.VX
def resSem(tmps:Array Value):ResultVar->Sem Value
 | .tmp t=>pure (tmps.getD t undef)
 | .cell a t=>do loadVar t (← asAddr (tmps.getD a undef))
theorem resL_run{P:Program} {E:Env} (hE:EnvOk P E) {w0:World} {I:Own} {nt:Nat} {U:Nat->Prop} {M:Mp} {st:St} {a:Act} {w:World} (h:Rel P w0 I nt U M st a w) :
  ∀ (rs:List ResultVar) (vs:List Vl),resL E st rs=some vs->∃ xs:List Value,ValsIn P w (own st M) M U vs xs /\
   (List.mapM (resSem a.tmps) rs).run P w=.ok xs w
 | [],vs,hv=>by
  cases hv
  exact⟨[],trivial,by rw[List.mapM_nil];rfl⟩
 | r::rs,vs,hv=>by
  simp only[resL] at hv
  split at hv
  ·rename_i v vs' h1 h2
   cases hv
   obtain⟨xs,k1,k2⟩:=resL_run hE h rs vs' h2
   have hone:∃ x,RepV P v.ty w (own st M) M v.val v.sh x/\ShIn U v.sh/\(resSem a.tmps r).run P w=.ok x w:=by
    cases r with
    | tmp t =>
     simp only[resOne] at h1
     split at h1
     ·rename_i u hu
      cases h1
      obtain⟨r,s⟩:=h.sl t v hu
      exact⟨_,r,s,rfl⟩
     ·cases h1
    | cell ad t =>
     simp only[resOne] at h1
     split at h1
     ·rename_i z id path off hu
      split at h1
      ·rename_i c hc
       split at h1
       ·rename_i u hp
        split at h1
        ·rename_i q1 q2
         cases h1
         have q1:=of_decide_eq_true q1
         simp only[Bool.and_eq_true] at q2
         obtain⟨q2,q3⟩:=q2
         have q2:=of_decide_eq_true q2
         obtain⟨r,s⟩:=h.sl ad _ hu
         obtain⟨pp,e1,e2⟩:=rep_ptr r
         dsimp only[PtrSh] at e1 e2
         have hchk:=hE.ty _ _ q2
         have hms:isMs c.ty=false:=msP hp (ms_std q3)
         obtain⟨ht,cs,rc,k⟩:=box_cells h (.inl hc) hms
         obtain⟨n,g1,g2,g3,g4⟩:=getP_rep path rc ht hp
         rw[q1] at g1
         cases g1
         refine⟨valOf v.ty.agg ((cs.drop off).take v.ty.size),rep_val g4 g3,getP_in _ _ _ hp (h.bx _ _ hc).2.1,?_⟩
         simp only[resSem]
         rw[e1,e2]
         simp only[asAddr,Sem.run_bind,Sem.run_pure,Result.andThen_ok]
         refine run_loadVar (chk_info hchk (chk_std hchk g3)) (g4.len g3) fun j u hj=>?_
         have:=k _ _ (drop_take_get hj)
         rwa [← Nat.add_assoc] at this
        ·cases h1
       ·cases h1
      ·cases h1
     ·cases h1
   obtain⟨x,r1,r2,r3⟩:=hone
   refine⟨x::xs,⟨r1,r2,k1⟩,?_⟩
   rw[List.mapM_cons]
   simp only[Sem.run_bind,Sem.run_pure,Result.andThen_ok]
   rw[r3]
   simp only[Result.andThen_ok]
   rw[k2]
   rfl
  ·cases hv
theorem results_run{P:Program} {E:Env} (hE:EnvOk P E) {w0:World} {I:Own} {nt:Nat} {U:Nat->Prop} {M:Mp} {st:St} {a:Act} {w:World} (h:Rel P w0 I nt U M st a w) {fn:Func} {vs:List Vl} (hv:resL E st fn.results.toList=some vs) :
  ∃ xs:List Value,ValsIn P w (own st M) M U vs xs/\(results fn a.tmps).run P w=.ok (if h:xs.toArray.size=1 then xs.toArray[0] else .tuple xs.toArray) w:=by
 obtain⟨xs,h1,h2⟩:=resL_run hE h _ _ hv
 refine⟨xs,h1,?_⟩
 have e:results fn a.tmps=(do
   let vs ← fn.results.mapM (resSem a.tmps)
   pure (if h:vs.size=1 then vs[0] else .tuple vs)):=by
  unfold results
  congr 1
 rw[e,Array.mapM_eq_mapM_toList]
 simp only[Sem.run_bind,map_eq_pure_bind]
 rw[h2]
 rfl
theorem conOut_conRes:∀ (B:Ty) (l:List Ty) (y:B.D) (o:(tuL l).D),conOut B l (conRes B l y o)=(y,o)
 | _,[],_,()=>rfl
 | _,_::_,_,_=>rfl
theorem dstOk_mono{n m:Nat} (h:n<=m):∀ c:Code,dstOk n c=true->dstOk m c=true:=by
 intro c
 induction c with
 | region id ops draw =>
  intro k
  refine List.all_eq_true.2 fun o ho=>?_
  have:=List.all_eq_true.1 k o ho
  cases hd:o.dst with
  | none=>rfl
  | some d =>
   rw[hd] at this
   exact Nat.ble_eq_true_of_le (Nat.le_trans (Nat.le_of_ble_eq_true this) h)
 | seq a b iha ihb =>
  intro k
  simp only[dstOk,Bool.and_eq_true] at k ⊢
  exact⟨iha k.1,ihb k.2⟩
 | cond c a b iha ihb =>
  intro k
  simp only[dstOk,Bool.and_eq_true] at k ⊢
  exact⟨iha k.1,ihb k.2⟩
 | block id c ih=>exact ih
 | loop c ih=>exact ih
 | _=>intro _;rfl
theorem run_sound{P:Program} {E:Env} (hE:EnvOk P E) (hQ:EqsOk P E) (hm:P.follows .mixedOrders=true) {f:FuncId} {fn:Func} {code:Code} {c:Con} {n:Ann} (hf:P.funcs[f]?=some fn) (hb:fn.body=some code)
  (hname : (fn.name == "runtime.NumGoroutine") = false) (hw : wfC c = true) (hd : dstOk fn.ntmps code = true) (hF : ∀ x, run E fn n c x = c.F x) : SoundC P f c := by
 refine⟨⟨fn,hf,hname,by rw[hb];rfl⟩,fun w M args x hrel y hy=>calls_of_wp hf hb ?_⟩
 have W:=wfC_spec hw
 have hO:=wfO_spec W.out
 rw[← hF] at hy
 unfold run at hy
 rw[hb] at hy
 dsimp only at hy
 have hsz:(args++Array.replicate (fn.ntmps-args.size) undef).size=args.size+(fn.ntmps-args.size):=by simp
 have hrel':Rel P w (ownN (inSt c x) M) (args.size+(fn.ntmps-args.size)) (·<c.lo) M (inSt c x) ⟨args++Array.replicate (fn.ntmps-args.size) undef,[]⟩ w:=by
  refine⟨fun n v hn=>?_,hrel.bx,hrel.ro,hrel.tk,hrel.live,hrel.dis,hrel.keep,hsz,rfl,hrel.ob⟩
  obtain⟨r,s⟩:=hrel.sl n v hn
  refine⟨?_,s⟩
  have:(args++Array.replicate (fn.ntmps-args.size) undef).getD n undef=args.getD n undef:=by
   simp only[Array.getD_eq_getD_getElem?,Array.getElem?_append]
   split
   ·rfl
   ·rename_i hlt
    rw[Array.getElem?_eq_none (by omega:args.size<=n),Array.getElem?_replicate]
    split<;>rfl
  dsimp only
  rw[this]
  exact r
 refine ev_ok hE hQ hm code n (inSt c x) _ y (·<c.lo) M _ w _ hy (dstOk_mono (by omega) code hd) hrel' (fun k hk=>by have:c.lo<=k:=hk;omega) ?_
 intro e st' U' M' a' w' h1 h2 h3 h4 h5 h6
 have main:(match resL E st' fn.results.toList with
    | some vs=>match finR st' c.fr c.B c.bsh vs [] with
     | some (y,m)=>match finB st' c.fr c.bs c.nb 0 m with
      | some (o,_)=>some (conRes c.B (outL c.bs c.nb) y o)
      | none=>none
     | none=>none
    | none=>none)=some y->a'.defers=[]/\∃ v,(results fn a'.tmps).run P w'=.ok v w'/\∃ v_1 M'_1,Ending.returned v=.returned v_1/\M'_1.fr=M.fr/\(∀ k,k<c.bs.length->M'_1.box k=M.box k) /\
     Rel P w (ownN (inSt c x) M) 1 (·<c.fr) M'_1 (outSt c y) ⟨#[v_1],[]⟩ w':=by
  intro h1
  split at h1
  ·rename_i vs hvs
   split at h1
   ·rename_i yv m1 hm1
    split at h1
    ·rename_i o mf hmf
     cases h1
     obtain⟨xs,k1,k2⟩:=results_run hE h5 hvs
     refine⟨h5.defs,_,k2,_,MpOut M' mf (mkeys c.B c.bsh),rfl,h4.1,?_⟩
     have hmf':finB st' c.fr c.bs c.nb 0 m1=some ((conOut c.B (outL c.bs c.nb) (conRes c.B (outL c.bs c.nb) yv o)).2,mf):=by rw[conOut_conRes];exact hmf
     obtain⟨b1,_⟩:=finB_mem _ _ _ _ _ _ hmf'
     have hnd:=nodupN_spec W.nodup
     rw[← List.append_assoc,List.nodup_append] at hnd
     have hks:∀ k∈upTo c.bs.length 0++c.nb.map (·.1),k ∉ mkeys c.B c.bsh:=fun k hk hm=>hnd.2.2 k hk k hm rfl
     have hfinal:ResOk st' c.fr c.B c.bsh [] yv m1/\(∀ O':Own,(∀ b o,O' b o->own st' M' b o)->(∀ k cv,look mf (c.fr+k)=some (some k)->look st'.bx k=some (.rw cv)->isMs cv.ty=true->∀ b o,inBox M' k cv.ty b o->¬ O' b o)->c.B≠.unit ->
       RepV P c.B w' O' (MpOut M' mf (mkeys c.B c.bsh)) yv c.bsh (if h:xs.toArray.size=1 then xs.toArray[0] else .tuple xs.toArray)):=by
      have tup:∀ (B:Ty) (z:B.D),FinLR st' c.fr B c.bsh vs [] z m1->vs.length≠1->(∀ a b,B=.tu a b->wfA (.tu a b)=true)->(∀ j∈mkeys B c.bsh,j∈mkeys c.B c.bsh)->ResOk st' c.fr B c.bsh [] z m1/\(∀ O':Own,(∀ b o,O' b o->own st' M' b o)->(∀ k cv,look mf (c.fr+k)=some (some k)->look st'.bx k=some (.rw cv)->isMs cv.ty=true->∀ b o,inBox M' k cv.ty b o->¬ O' b o)->B≠.unit ->
       RepV P B w' O' (MpOut M' mf (mkeys c.B c.bsh)) z c.bsh (if h:xs.toArray.size=1 then xs.toArray[0] else .tuple xs.toArray)):=by
       intro B z hL hlen hwa hmk
       refine⟨hL.resOk,fun O' hO' hdead hB=>?_⟩
       have hxl:=k1.len
       have hne:¬ xs.toArray.size=1:=by simp;omega
       rw[dif_neg hne]
       cases B with
       | tu a b=>exact⟨xs,rfl,hL.rep h5 hO' hks hdead b1 hmk hO.bsh (hwa a b rfl) xs k1⟩
       | unit=>exact(hB rfl).elim
       | _=>cases hL
      cases vs with
      | nil =>
       have:FinLR st' c.fr c.B c.bsh [] [] yv m1:=by
        unfold finR at hm1
        clear tup k1 k2 hvs hmf hmf' hd hF hy hrel hrel' h2 h3 h4 h5 h6 b1 hnd hks hO W hw
        obtain⟨A,ash,bs,B,bsh,nb,fr,F⟩:=c
        dsimp only at *
        cases B<;>first | (cases hm1;done) | exact finL_R _ _ _ _ _ _ hm1
       exact tup c.B yv this (by simp) (fun a b e=>hO.tu a b e) (fun j hj=>hj)
      | cons v vs =>
       cases vs with
       | cons u us =>
        have:FinLR st' c.fr c.B c.bsh (v::u::us) [] yv m1:=by
         unfold finR at hm1
         clear tup k1 k2 hvs hmf hmf' hd hF hy hrel hrel' h2 h3 h4 h5 h6 b1 hnd hks hO W hw
         obtain⟨A,ash,bs,B,bsh,nb,fr,F⟩:=c
         dsimp only at *
         cases B<;>first | (cases hm1;done) | exact finL_R _ _ _ _ _ _ hm1
        exact tup c.B yv this (by simp) (fun a b e=>hO.tu a b e) (fun j hj=>hj)
       | nil =>
        have hR:FinR st' c.fr c.B c.bsh v [] yv m1/\c.B.tup=false:=by
         unfold finR at hm1
         clear tup k1 k2 hvs hmf hmf' hd hF hy hrel hrel' h2 h3 h4 h5 h6 b1 hnd hks hO W hw
         obtain⟨A,ash,bs,B,bsh,nb,fr,F⟩:=c
         dsimp only at *
         cases B<;>first | (cases hm1;done) | exact⟨finV_R _ _ _ _ _ _ hm1,rfl⟩
        obtain⟨hR,htu⟩:=hR
        refine⟨hR.resOk,fun O' hO' hdead hB=>?_⟩
        cases xs with
        | nil=>exact k1.elim
        | cons z zs =>
         cases zs with
         | cons _ _=>exact k1.2.2.elim
         | nil =>
          rw[dif_pos (by simp)]
          have hvt:=hR.ty
          have hvu:v.ty.tup=false:=by rw[hvt];exact htu
          have r1:=(repV_of hvu).1 k1.1
          refine(repV_of htu).2 ?_
          have e:v.ty.agg=c.B.agg:=by rw[hvt]
          rw[← e]
          exact r1.imp fun cs hc=>hR.rep h5 hO' hks hdead b1 (fun j hj=>hj) hO.bsh hvu cs hc
     have hout:=out_rel h5 W (y:=conRes c.B (outL c.bs c.nb) yv o) (m1:=m1) (mf:=mf) (v:=(if h:xs.toArray.size=1 then xs.toArray[0] else .tuple xs.toArray)) (by rw[conOut_conRes];exact hfinal.1) hmf' (by rw[conOut_conRes];exact hfinal.2)
     refine⟨fun k hk=>(hout.2 k hk).trans (h4.2 k (Nat.lt_of_lt_of_le hk W.le)).1,hout.1⟩
    ·cases h1
   ·cases h1
  ·cases h1
 cases e with
 | exit id=>cases h1
 | normal=>exact main h1
 | ret=>exact main h1
#print axioms run_sound
end Go.VX
/- VX, part 53: an environment is right: what a machine may check. -/
set_option linter.unusedVariables false
set_option linter.unusedSimpArgs false
namespace Go.VX
def isArrB(P:Program) (t:Nat):Bool:=match P.underlying t with
 | some (.array _ _)=>true
 | _=>false
def limB(P:Program) (t n:Nat):Bool:=match P.underlying t with
 | some (.slice e)=>match P.info? e with
  | some i=>Nat.blt 0 i.bytes&&Nat.ble (n*i.bytes) 140737488355328
  | none=>false
 | _=>false
def eqsB(P:Program) (t:Nat) (τ:Ty):Bool:=(chkE P τ).ty t&&Nat.ble (depT τ) 10000&&!P.eqGuardType P.depth t
def mpB(P:Program) (t kt vt:Nat):Bool:=match P.underlying t with
 | some (.map k v)=>Nat.beq k kt&&Nat.beq v vt
 | _=>false
def envB(P:Program) (eqs arr:List Nat) (mps:List (Nat×Nat×Nat)) (ty:List (Nat×Ty)) (lim:List (Nat×Nat)):Bool :=
 ty.all (fun p=>(chk P p.2).ty p.1&&(memNat arr p.1==isArrB P p.1)&&(!memNat eqs p.1||eqsB P p.1 p.2))&&lim.all (fun p=>limB P p.1 p.2)&&mps.all (fun p=>mpB P p.1 p.2.1 p.2.2)
inductive ConsOk (P:Program):List (Nat×Con)->Prop
 | nil:ConsOk P []
 | cons {k:Nat} {c:Con} {l:List (Nat×Con)}:SoundC P k c/\wfC c=true->ConsOk P l->ConsOk P ((k,c)::l)
theorem ConsOk.look{P:Program}:∀ {l:List (Nat×Con)},ConsOk P l->∀ k c,look l k=some c->SoundC P k c/\wfC c=true
 | _,.nil,k,c,h=>by cases h
 | _,.cons h1 h2,k,c,h=>by
  rw[look_cons] at h
  split at h
  ·rename_i e;subst e;cases h;exact h1
  ·exact h2.look k c h
inductive InsAll (P:Program):List (Nat×Nat)->Prop
 | nil:InsAll P []
 | cons {f t:Nat} {l:List (Nat×Nat)}:InsOk P f t->InsAll P l->InsAll P ((f,t)::l)
theorem InsAll.look{P:Program}:∀ {l:List (Nat×Nat)},InsAll P l->∀ f t,look l f=some t->InsOk P f t
 | _,.nil,f,t,h=>by cases h
 | _,.cons h1 h2,f,t,h=>by
  rw[look_cons] at h
  split at h
  ·rename_i e;subst e;cases h;exact h1
  ·exact h2.look f t h
theorem env_ok{P:Program} {E:Env} (h:envB P E.eqs E.arr E.mps E.ty E.lim=true) (hc:ConsOk P E.con) (hin:InsAll P E.ins):EnvOk P E/\EqsOk P E:=by
 simp only[envB,Bool.and_eq_true] at h
 obtain⟨⟨h1,h2⟩,h3⟩:=h
 have hty:∀ t τ,look E.ty t=some τ->((chk P τ).ty t=true/\(memNat E.arr t==isArrB P t)=true)/\(!memNat E.eqs t||eqsB P t τ)=true:=fun t τ ht=>by
  have:=List.all_eq_true.1 h1 _ (look_mem ht)
  simpa only[Bool.and_eq_true] using this
 refine⟨⟨fun t τ ht=>(hty t τ ht).1.1,fun t n ht=>?_,fun f c hf=>(hc.look f c hf).1,fun f c hf=>(hc.look f c hf).2,fun t τ ht=>?_,fun t kt vt ht=>?_,hin.look⟩,⟨fun t τ he ht=>?_⟩⟩
 ·have:=List.all_eq_true.1 h2 _ (look_mem ht)
  unfold limB at this
  dsimp only at this
  split at this
  ·rename_i e hu
   split at this
   ·rename_i i hi
    simp only[Bool.and_eq_true] at this
    exact⟨e,i,hu,hi,Nat.lt_of_lt_of_le (Nat.le_of_ble_eq_true this.1) (Nat.le_refl _),Nat.le_of_ble_eq_true this.2⟩
   ·cases this
  ·cases this
 ·have:=(hty t τ ht).1.2
  rw[beq_iff_eq] at this
  rw[this]
  unfold isArrB
  split
  ·rename_i n e hu;exact⟨fun _=>⟨n,e,hu⟩,fun _=>rfl⟩
  ·rename_i hne
   exact⟨fun h=>(by cases h),fun⟨n,e,hu⟩=>(hne n e hu).elim⟩
 ·have:=List.all_eq_true.1 h3 _ (look_mem ht)
  unfold mpB at this
  dsimp only at this
  split at this
  ·rename_i k v hu
   simp only[Bool.and_eq_true] at this
   rw[hu,Nat.eq_of_beq_eq_true this.1,Nat.eq_of_beq_eq_true this.2]
  ·cases this
 ·have:=(hty t τ ht).2
  rw[he,Bool.not_true,Bool.false_or] at this
  unfold eqsB at this
  simp only[Bool.and_eq_true,Bool.not_eq_true'] at this
  exact⟨this.1.1,Nat.le_of_ble_eq_true this.1.2,this.2⟩
theorem sound_of{P:Program} {E:Env} (h:envB P E.eqs E.arr E.mps E.ty E.lim=true) (hc:ConsOk P E.con) (hm:P.follows .mixedOrders=true) {f:FuncId} {fn:Func} {code:Code} {c:Con} {n:Ann} (hf:P.funcs[f]?=some fn) (hb:fn.body=some code)
  (hk : ((!(fn.name == "runtime.NumGoroutine")) && dstOk fn.ntmps code && wfC c) = true) (hF : ∀ x, run E fn n c x = c.F x) (hin : InsAll P E.ins) : SoundC P f c ∧ wfC c = true := by
 simp only[Bool.and_eq_true,Bool.not_eq_true'] at hk
 obtain⟨⟨h1,h2⟩,h3⟩:=hk
 obtain⟨hE,hQ⟩:=env_ok h hc hin
 exact⟨run_sound hE hQ hm hf hb h1 h3 h2 hF,h3⟩
def bodyB(fn:Func) (c:Con):Bool:=match fn.body with
 | some code => (!(fn.name == "runtime.NumGoroutine")) && dstOk fn.ntmps code && wfC c
 | none=>false
theorem sound_any{P:Program} {E:Env} (h:envB P E.eqs E.arr E.mps E.ty E.lim=true) (hc:ConsOk P E.con) (hm:P.follows .mixedOrders=true) {f:FuncId} {fn:Func} {c:Con} {n:Ann} (hf:P.funcs[f]?=some fn)
  (hk:bodyB fn c=true:=by kernel_rfl) (hF:∀ x,run E fn n c x=c.F x:=by intro x;kernel_rfl) (hin:InsAll P E.ins:=by exact .nil):SoundC P f c/\wfC c=true:=by
 unfold bodyB at hk
 split at hk
 ·rename_i code hb
  exact sound_of h hc hm hf hb hk hF hin
 ·cases hk
def gR(n:Nat):Ann:=.reg (Its.go n 0) []
def gM(n:Nat) (l:List (Nat×Nat)):Ann:=.reg (Its.go n 0) l
def bS(l:List Nat):Nat:=l.foldl (fun a i=>a ||| 1 <<< i) 0
def gL:List Ann->Ann
 | []=>.leaf
 | [a]=>a
 | a::b::l=>.sq a (gL (b::l))
def gN:Nat->Nat->Its->Its
 | 0,_,r=>r
 | n+1,i,r=>.op i false (gN n (i+1) r)
def lf:Ann:=.leaf
end Go.VX
/- VX, part 56: functions that call themselves. -/
set_option linter.unusedVariables false
set_option linter.unusedSimpArgs false
namespace Go.VX
noncomputable def recP{α β:Type} (F:Nat->α->Option β) (x:α):Option β :=
 match Classical.propDecidable (∃ n,(F n x).isSome=true) with
 | isTrue h=>F (Classical.choose h) x
 | isFalse _=>none
theorem recP_some{α β:Type} {F:Nat->α->Option β} {x:α} {y:β} (h:recP F x=some y):∃ n,F n x=some y:=by
 unfold recP at h
 split at h
 ·exact⟨_,h⟩
 ·cases h
theorem recP_is{α β:Type} {F:Nat->α->Option β} {x:α} {v:β} (h:∀ n y,F n x=some y->y=v) (n:Nat) (hn:F n x=some v):recP F x=some v:=by
 cases hr:recP F x with
 | some y =>
  obtain⟨m,hm⟩:=recP_some hr
  rw[h m y hm]
 | none =>
  unfold recP at hr
  split at hr
  ·rename_i hx _
   have:=Classical.choose_spec hx
   rw[hr] at this
   cases this
  ·rename_i hx _
   exact(hx ⟨n,by rw[hn];rfl⟩).elim
theorem sound_none{P:Program} {f:FuncId} {fn:Func} {c:Con} (hf:P.funcs[f]?=some fn) (hk:bodyB fn c=true) (hF:∀ x,c.F x=none):SoundC P f c/\wfC c=true:=by
 unfold bodyB at hk
 split at hk
 ·rename_i code hb
  simp only[Bool.and_eq_true,Bool.not_eq_true'] at hk
  refine⟨⟨⟨fn,hf,hk.1.1,by rw[hb];rfl⟩,fun w M args x _ y hy=>?_⟩,hk.2⟩
  rw[hF] at hy
  cases hy
 ·cases hk
theorem sound_rec{P:Program} {f:FuncId} {A:Ty} {ash:List Sh} {bs:_} {B:Ty} {bsh:_} {nb:_} {fr:Nat} {F:Nat->_} (h:∀ n,SoundC P f ⟨A,ash,bs,B,bsh,nb,fr,F n⟩/\wfC ⟨A,ash,bs,B,bsh,nb,fr,F n⟩=true) :
  SoundC P f ⟨A,ash,bs,B,bsh,nb,fr,recP F⟩/\wfC ⟨A,ash,bs,B,bsh,nb,fr,recP F⟩=true:=by
 refine⟨⟨(h 0).1.1,fun w M args x hr y hy=>?_⟩,(h 0).2⟩
 obtain⟨n,hn⟩:=recP_some hy
 exact(h n).1.2 w M args x hr y hn
end Go.VX
/- VX, part 58: functions with so much leave, that come to an end by reckoning: what they come to is what the functions come to. -/
set_option linter.unusedVariables false
set_option linter.unusedSimpArgs false
namespace Go.VX
def Up{α:Type} (x y:Option α):Prop:=∀ v,x=some v->y=some v
theorem up_same{α:Type} (x:Option α):Up x x:=fun _ h=>h
theorem up_none{α:Type} (x:Option α):Up none x:=fun _ h=>by cases h
theorem up_bnd{α β:Type} {x x':Option α} {f f':α->Option β} (h:Up x x') (hf:∀ a,Up (f a) (f' a)):Up (bnd x f) (bnd x' f'):=by
 intro v hv
 cases hx:x with
 | none=>rw[hx] at hv;cases hv
 | some a =>
  rw[hx] at hv
  rw[h a hx]
  exact hf a v hv
theorem up_bndS{α β:Type} {x x':Option (α ⊕ β)} {f f':α->Option β} (h:Up x x') (hf:∀ a,Up (f a) (f' a)):Up (bndS x f) (bndS x' f'):=by
 intro v hv
 cases hx:x with
 | none=>rw[hx] at hv;cases hv
 | some a =>
  rw[hx] at hv
  rw[h a hx]
  cases a with
  | inl a=>exact hf a v hv
  | inr r=>exact hv
theorem up_cnd{α:Type} (b:Bool) {x x' y y':Option α} (h:Up x x') (h':Up y y'):Up (cnd b x y) (cnd b x' y'):=by
 cases b
 ·exact h'
 ·exact h
theorem up_inr{α β:Type} {x x':Option β} (h:Up x x'):Up (inrE (α:=α) x) (inrE x'):=by
 intro v hv
 cases hx:x with
 | none=>rw[hx] at hv;cases hv
 | some a =>
  rw[hx] at hv
  rw[h a hx]
  exact hv
def ambN{α:Type} (b:Bool) (k:Bool->Option α):Option α :=
 match b with
 | true=>none
 | false=>k false
theorem up_amb{α:Type} (b:Bool) {k k':Bool->Option α} (h:∀ q,Up (k q) (k' q)):Up (ambN b k) (amb b k'):=by
 cases b
 ·exact h false
 ·exact up_none _
def lpN{σ ρ:Type} (n:Nat) (f:σ->Option (σ ⊕ ρ)) (s:σ):Option ρ:=loopN f n s
theorem loopN_up{σ ρ:Type} {f g:σ->Option (σ ⊕ ρ)} (h:∀ s,Up (f s) (g s)):∀ n s,Up (loopN f n s) (loopN g n s)
 | 0,s=>up_none _
 | n+1,s=>by
  intro v hv
  simp only[loopN] at hv ⊢
  cases hf:f s with
  | none=>rw[hf] at hv;cases hv
  | some a =>
   rw[hf] at hv
   rw[h s a hf]
   cases a with
   | inl a=>exact loopN_up h n a v hv
   | inr r=>exact hv
theorem loopN_more{σ ρ:Type} {f:σ->Option (σ ⊕ ρ)}:∀ n k s v,loopN f n s=some v->loopN f (n+k) s=some v
 | 0,k,s,v,h=>by cases h
 | n+1,k,s,v,h=>by
  rw[Nat.succ_add]
  simp only[loopN] at h ⊢
  cases hf:f s with
  | none=>rw[hf] at h;cases h
  | some a =>
   rw[hf] at h
   cases a with
   | inl a=>exact loopN_more n k a v h
   | inr r=>exact h
theorem loopP_one{σ ρ:Type} {f:σ->Option (σ ⊕ ρ)} {n:Nat} {s:σ} {v:ρ} (h:loopN f n s=some v):loopP f s=some v:=by
 unfold loopP
 split
 ·rename_i hx _
  have hc:=Classical.choose_spec hx
  cases hm:loopN f (Classical.choose hx) s with
  | none=>rw[hm] at hc;cases hc
  | some y =>
   have h1:=loopN_more _ n s y hm
   have h2:=loopN_more n (Classical.choose hx) s v h
   rw[Nat.add_comm,h1] at h2
   exact h2
 ·rename_i hx _
  exact(hx ⟨n,by rw[h];rfl⟩).elim
theorem up_loop{σ ρ:Type} {f g:σ->Option (σ ⊕ ρ)} (n:Nat) (s:σ) (h:∀ s,Up (f s) (g s)):Up (lpN n f s) (loopP g s) :=
 fun v hv=>loopP_one (loopN_up h n s v hv)
theorem up_loopP{σ ρ:Type} {f g:σ->Option (σ ⊕ ρ)} (s:σ) (h:∀ s,Up (f s) (g s)):Up (loopP f s) (loopP g s):=by
 intro v hv
 obtain⟨n,hn⟩:∃ n,loopN f n s=some v:=by
  unfold loopP at hv
  split at hv
  ·exact⟨_,hv⟩
  ·cases hv
 exact loopP_one (loopN_up h n s v hn)
theorem up_rec{α β:Type} {F:Nat->α->Option β} (hm:∀ n x,Up (F n x) (F (n+1) x)) (n:Nat) (x:α) {c:Option β} (hc:Up c (F n x)):Up c (recP F x):=by
 intro v h
 have up:∀ (n k:Nat) x,Up (F n x) (F (n+k) x):=by
  intro n k x
  induction k with
  | zero=>exact up_same _
  | succ k ih=>exact fun v hv=>hm (n+k) x v (ih v hv)
 refine recP_is (fun m y hy=>?_) n (hc v h)
 have h1:=up n m x v (hc v h)
 have h2:=up m n x y hy
 rw[Nat.add_comm m n,h1] at h2
 exact(Option.some.inj h2).symm
theorem up_clone{α:Type} (lim:Nat) (l:List α):Up (app lim [] l) (amb l.isEmpty fun q=>cnd q (some []) (bnd (app lim [] l) fun v=>some v)):=by
 intro v hv
 cases l with
 | nil =>
  have e:app lim ([]:List α) []=some []:=by unfold app;rw[if_pos (by simp)];rfl
  rw[e] at hv ⊢
  cases hv
  show amb true _=_
  unfold amb
  dsimp only
  split
  ·rfl
  ·rename_i h _
   exact(h rfl).elim
 | cons a l =>
  show bnd (app lim [] (a::l)) (fun v=>some v)=_
  rw[hv];rfl
theorem up_some{α:Type} {x y:Option α} {v:α} (h:Up x y) (hx:x=some v):y=some v:=h v hx
end Go.VX
/- VX, part 54: a law's row: what is handed in. -/
set_option linter.unusedVariables false
set_option linter.unusedSimpArgs false
namespace Go.VX
open Go.RowKit (Below)
def Ty.wf:(t:Ty)->t.D->Prop
  | .int k,x=>k.min<=x/\x<=k.max
  | .str,x=>List.length x<=9223372036854775807/\∀ b∈(x:List Int),0<=b/\b<=255
  | .sl e,x=>List.length x<=9223372036854775807/\∀ y∈(x:List e.D),e.wf y
  | .pr a b,x=>a.wf x.1/\b.wf x.2
  | .tu a b,x=>a.wf x.1/\b.wf x.2
  | _,_=>True
theorem rep_wf{P:Program}:∀ (t:Ty) {w:World} {O:Own} {M:Mp} {x:t.D} {cs:List Value},RepC P t w O M x .o cs->t.wf x
  | .int k,_,_,_,x,_,r=>⟨r.2.1,r.2.2⟩
  | .str,_,_,_,x,_,r=>by
    obtain⟨s,_,rfl,hl⟩:=r
    refine⟨hl,fun b hb=>?_⟩
    obtain⟨u,_,rfl⟩:=List.mem_map.1 hb
    have:=u.toNat_lt
    omega
  | .sl e,_,_,_,x,_,r=>by
    obtain⟨a,n,c,e1,e2,e3,e4,e5⟩:=r
    refine⟨by rw[← e2];exact e3.2,fun y hy=>?_⟩
    obtain⟨i,hi⟩:=List.getElem?_of_mem hy
    cases ha:a with
    | none =>
      have:=e4 ha
      have:=(List.getElem?_eq_some_iff.1 hi).1
      have:=e3.1
      omega
    | some p =>
      obtain⟨es,_,_,r⟩:=e5 p ha i y hi
      exact rep_wf e r
  | .pr a b,_,_,_,x,_,r=>by
    obtain⟨c1,c2,_,_,_,_,_,r1,r2⟩:=r
    exact⟨rep_wf a r1,rep_wf b r2⟩
  | .tu a b,_,_,_,x,_,r=>by
    obtain⟨v,vs,_,_,r1,r2⟩:=r
    refine⟨?_,rep_wf b r2⟩
    unfold ValOf at r1
    split at r1
    · obtain⟨cs,_,r1⟩:=r1;exact rep_wf a r1
    · exact rep_wf a r1
  | .bool,_,_,_,_,_,_ | .ptr,_,_,_,_,_,_ | .unit,_,_,_,_,_,_ | .ms _,_,_,_,_,_,_ | .fn _ _,_,_,_,_,_,_ | .rref _,_,_,_,_,_,_ | .eref,_,_,_,_,_,_ | .mh,_,_,_,_,_,_ | .nx,_,_,_,_,_,_=>trivial
def szOk:Ty->Bool
  | .sl e=>Nat.blt 0 e.size&&szOk e
  | .pr a b=>szOk a&&szOk b
  | .int _=>true
  | .bool=>true
  | .str=>true
  | .ptr=>true
  | .unit=>true
  | _=>false
theorem szOk_tup{t:Ty} (h:szOk t=true):t.tup=false:=by cases t<;>first | rfl | cases h
theorem take_two{cs:List Value} {o a b:Nat}:(cs.drop o).take (a+b)=(cs.drop o).take a++(cs.drop (o+a)).take b:=by
  rw[List.take_add,List.drop_drop]
theorem cellsOf_eq{P:Program} {τ:Ty} {t:TypeId} (h:infoB P τ t=true):P.cellsOf t=τ.size:=by
  obtain⟨_,x,d,hx,_,hs,_⟩:=infoB_spec h
  simp [Program.cellsOf,hx,hs]
theorem cells_get{w:World} {a:Addr}:∀ {n:Nat} {cs:List Value},w.cells? 0 a n=some cs->cs.length=n/\∀ j v,cs[j]?=some v->w.cell? (a.add j)=some v:=by
  intro n cs h
  simp only[World.cells?,Nat.zero_le,if_true] at h
  have hl:=mapM_some_length h
  refine⟨by simpa using hl,fun j v hj=>?_⟩
  have hjn:j<n:=by have:=(List.getElem?_eq_some_iff.1 hj).1;simp at hl;omega
  have:=mapM_some_get h j j (by simp [hjn])
  rw[this,hj]
structure Opens (P:Program) (w:World) (H:Type) (enc:TypeId×Value->H) (held:Bool) (τ:Ty):Prop where
  ty:∀ (t:TypeId) (fuel:Nat) (cs:List Value) x,(chk P τ).ty t=true->DataW.trod enc P w 0 (fun _=>true) held fuel t cs=some x->∃ y:τ.D,RepC P τ w noOwn default y .o cs
  fs:∀ (l:List Field) (off:Nat) (cs:List Value),(chk P τ).fs l off=true->off+τ.size<=cs.length->(∀ f∈l,∃ n x,DataW.trod enc P w 0 (fun _=>true) held n f.type ((cs.drop f.offset).take (P.cellsOf f.type))=some x) ->
    ∃ y:τ.D,RepC P τ w noOwn default y .o ((cs.drop off).take τ.size)
  ar:∀ (n:Nat) (e:TypeId) (k:Nat) (cs:List Value),(chk P τ).ar n e=true->k*P.cellsOf e+τ.size<=cs.length->(∀ i,k<=i->i<k+n->∃ m x,DataW.trod enc P w 0 (fun _=>true) held m e ((cs.drop (i*P.cellsOf e)).take (P.cellsOf e))=some x) ->
    ∃ y:τ.D,RepC P τ w noOwn default y .o ((cs.drop (k*P.cellsOf e)).take τ.size)
theorem lit_in{k:IntKind} {n:Int} (h:(Lit.int k n).wf=true):k.min<=n/\n<=k.max:=by simpa [Lit.wf] using h
theorem list_of{α:Type} {R:Nat->α->Prop}:∀ (n:Nat),(∀ i,i<n->∃ y,R i y)->∃ l:List α,l.length=n/\∀ (i:Nat) y,l[i]?=some y->R i y
  | 0,_=>⟨[],rfl,fun i y h=>by simp at h⟩
  | n+1,h=>by
    obtain⟨l,h1,h2⟩:=list_of n fun i hi=>h i (by omega)
    obtain⟨y,hy⟩:=h n (by omega)
    refine⟨l++[y],by simp [h1],fun i z hz=>?_⟩
    rw[List.getElem?_append] at hz
    split at hz
    · exact h2 i z hz
    · rename_i hlt
      have:i=n:=by
        have:=(List.getElem?_eq_some_iff.1 hz).1
        simp at this
        omega
      subst this
      rw[h1,Nat.sub_self] at hz
      simp only[List.getElem?_cons_zero,Option.some.injEq] at hz
      subst hz
      exact hy
theorem opens{P:Program} {w:World} {H:Type} {enc:TypeId×Value->H} {held:Bool}:∀ (τ:Ty),szOk τ=true->Opens P w H enc held τ:=by
  intro τ
  induction τ with
  | int k =>
    intro _
    refine⟨fun t fuel cs x hc h=>?_,fun l off cs h=>by simp [chk] at h,fun n e k' cs h=>by simp [chk] at h⟩
    obtain⟨n,rfl,_,hw⟩:=DataW.trod_int (chk_int hc) h
    obtain⟨h1,h2⟩:=lit_in hw
    exact⟨n,rfl,h1,h2⟩
  | bool =>
    intro _
    refine⟨fun t fuel cs x hc h=>?_,fun l off cs h=>by simp [chk] at h,fun n e k' cs h=>by simp [chk] at h⟩
    have hu:P.underlying t=some .bool:=by
      simp only[chk,Bool.and_eq_true] at hc
      have:=hc.2
      split at this
      · assumption
      · cases this
    obtain⟨b,rfl,_⟩:=DataW.trod_bool hu h
    exact⟨b,rfl⟩
  | str =>
    intro _
    refine⟨fun t fuel cs x hc h=>?_,fun l off cs h=>by simp [chk] at h,fun n e k' cs h=>by simp [chk] at h⟩
    obtain⟨s,rfl,_,hl⟩:=DataW.trod_string (chk_str hc) h
    refine⟨strOf s,s,rfl,rfl,?_⟩
    rw[strOf_length]
    exact hl
  | ptr =>
    intro _
    refine⟨fun t fuel cs x hc h=>?_,fun l off cs h=>by simp [chk] at h,fun n e k' cs h=>by simp [chk] at h⟩
    obtain⟨e,he⟩:=chk_ptr hc
    rcases DataW.trod_pointer he h with⟨rfl,_⟩ | ⟨a,cs',y,n,_,rfl,_⟩
    · exact⟨(),none,rfl,trivial⟩
    · exact⟨(),some a,rfl,trivial⟩
  | unit =>
    intro _
    refine⟨fun t fuel cs x hc h=>?_,fun l off cs h _ _=>⟨(),by simp [RepC,Ty.size]⟩,fun n e k' cs h _ _=>⟨(),by simp [RepC,Ty.size]⟩⟩
    have hi:=chk_info hc rfl
    simp only[chk,Bool.and_eq_true] at hc
    have:=hc.2
    split at this
    · rename_i fs hu
      obtain⟨xs,n,_,_,hl,_⟩:=DataW.trod_struct hu h
      rw[cellsOf_eq hi] at hl
      exact⟨(),List.eq_nil_of_length_eq_zero hl⟩
    · cases this
  | sl e ih =>
    intro hz
    simp only[szOk,Bool.and_eq_true] at hz
    have hpos:0<e.size:=Nat.lt_of_lt_of_le (Nat.le_of_ble_eq_true hz.1) (Nat.le_refl _)
    have IH:=ih hz.2
    refine⟨fun t fuel cs x hc h=>?_,fun l off cs h=>by simp [chk] at h,fun n e k' cs h=>by simp [chk] at h⟩
    obtain⟨j,hj,hjc,hjm⟩:=chk_sl hc
    have hsz:=cellsOf_eq (chk_info hjc (mem_std hjm))
    rcases DataW.trod_slice hj h with⟨rfl,_⟩ | ⟨a,len,cap,elems,rest,n,_,rfl,_,_,hlc,hcm,hel,he,hr,_⟩
    · exact⟨[],none,0,0,.inl rfl,rfl,⟨Nat.le_refl _,Nat.zero_le _⟩,fun _=>rfl,fun p hp=>by cases hp⟩
    · rw[hsz] at he hr
      have hspot:0<cap->a=⟨a.block,a.off,none⟩:=fun hcap=>by
        have hcell:∃ v,w.cell? a=some v:=by
          have key:∀ i,((w.cells? 0 (a.add (0*e.size)) e.size).bind (DataW.trod enc P w 0 (fun _=>true) held n j))=some i->∃ v,w.cell? a=some v:=fun i hi=>by
            obtain⟨cs',h1,_⟩:=Option.bind_eq_some_iff.1 hi
            obtain⟨hl,hg⟩:=cells_get h1
            have h0:0<cs'.length:=by omega
            have:=hg 0 _ (List.getElem?_eq_getElem h0)
            simp only[Nat.zero_mul,Addr.add,if_true] at this
            exact⟨_,this⟩
          rcases Nat.eq_zero_or_pos len with h0 | h0
          · subst h0
            obtain⟨r1,r2⟩:=hr rfl
            have:=r2 0 (by omega)
            rw[List.getElem?_eq_getElem (by omega)] at this
            exact key _ this
          · have:=he 0 h0
            rw[List.getElem?_eq_getElem (by omega)] at this
            exact key _ this
        obtain⟨v,hv⟩:=hcell
        obtain⟨b,o,s⟩:=a
        simp only[World.cell?] at hv
        split at hv
        · cases s with
          | none=>rfl
          | some s=>simp at hv
        · cases hv
      have hall:∀ i,i<len->∃ (y:e.D),∃ cs',w.cells? 0 (a.add (i*e.size)) e.size=some cs'/\RepC P e w noOwn default y .o cs':=fun i hi=>by
        have:=he i hi
        rw[List.getElem?_eq_getElem (by omega)] at this
        obtain⟨cs',h1,h2⟩:=Option.bind_eq_some_iff.1 this
        obtain⟨y,hy⟩:=IH.ty j n cs' _ hjc h2
        exact⟨y,cs',h1,hy⟩
      obtain⟨l,l1,l2⟩:=list_of len hall
      refine⟨l,some (a.block,a.off),len,cap,?_,l1.symm,⟨hlc,by have:cap<=2 ^ 63-1:=hcm;omega⟩,fun h=>(by cases h),fun p hp i y hi=>?_⟩
      · rcases Nat.eq_zero_or_pos cap with h0 | h0
        · exact .inr ⟨rfl,h0,a,_,rfl,rfl⟩
        · left
          have:=hspot h0
          rw[this]
          rfl
      · cases hp
        obtain⟨cs',h1,h2⟩:=l2 i y hi
        obtain⟨hl,hg⟩:=cells_get h1
        refine⟨cs',hl,fun k u hk=>⟨?_,fun h=>h⟩,h2⟩
        have hi':i<len:=by rw[← l1];exact(List.getElem?_eq_some_iff.1 hi).1
        have hsp:=hspot (by omega)
        have:=hg k u hk
        rw[hsp,adr_add,adr_add] at this
        exact this
  | pr a b iha ihb =>
    intro hz
    simp only[szOk,Bool.and_eq_true] at hz
    have IHa:=iha hz.1
    have IHb:=ihb hz.2
    have FS:∀ (l:List Field) (off:Nat) (cs:List Value),(chk P (.pr a b)).fs l off=true->off+(Ty.pr a b).size<=cs.length->(∀ f∈l,∃ n x,DataW.trod enc P w 0 (fun _=>true) held n f.type ((cs.drop f.offset).take (P.cellsOf f.type))=some x) ->
        ∃ y:(Ty.pr a b).D,RepC P (.pr a b) w noOwn default y .o ((cs.drop off).take (Ty.pr a b).size):=fun l off cs h hl hf=>by
      cases l with
      | nil=>simp [chk] at h
      | cons f r =>
        simp only[chk,Bool.and_eq_true] at h
        obtain⟨⟨h1,h2⟩,h3⟩:=h
        have h1:=Nat.eq_of_beq_eq_true h1
        obtain⟨n,x,hx⟩:=hf f List.mem_cons_self
        have hat:=szOk_tup hz.1
        have hbt:=szOk_tup hz.2
        have hsa:=cellsOf_eq (chk_info h2 (by cases a<;>first | rfl | cases hz.1))
        rw[hsa,h1] at hx
        simp only[Ty.size] at hl
        obtain⟨y,hy⟩:=IHa.ty f.type n _ x h2 hx
        obtain⟨z,hzz⟩:=IHb.fs r (off+a.size) cs h3 (by omega) fun f' hf'=>hf f' (List.mem_cons_of_mem _ hf')
        refine⟨(y,z),_,_,take_two,?_,?_,hat,hbt,hy,hzz⟩
        · rw[List.length_take,List.length_drop];omega
        · rw[List.length_take,List.length_drop];omega
    have AR:∀ (n:Nat) (e:TypeId) (k:Nat) (cs:List Value),(chk P (.pr a b)).ar n e=true->k*P.cellsOf e+(Ty.pr a b).size<=cs.length->(∀ i,k<=i->i<k+n->∃ m x,DataW.trod enc P w 0 (fun _=>true) held m e ((cs.drop (i*P.cellsOf e)).take (P.cellsOf e))=some x) ->
        ∃ y:(Ty.pr a b).D,RepC P (.pr a b) w noOwn default y .o ((cs.drop (k*P.cellsOf e)).take (Ty.pr a b).size):=fun n e k cs h hl hf=>by
      cases n with
      | zero=>simp [chk] at h
      | succ n =>
        simp only[chk,Bool.and_eq_true] at h
        obtain⟨h2,h3⟩:=h
        obtain⟨m,x,hx⟩:=hf k (Nat.le_refl _) (by omega)
        have hat:=szOk_tup hz.1
        have hbt:=szOk_tup hz.2
        have hsa:=cellsOf_eq (chk_info h2 (by cases a<;>first | rfl | cases hz.1))
        simp only[Ty.size] at hl
        have hx':=hx
        rw[hsa] at hx'
        obtain⟨y,hy⟩:=IHa.ty e m _ x h2 hx'
        have hk:(k+1)*P.cellsOf e=k*P.cellsOf e+a.size:=by rw[Nat.succ_mul,hsa]
        obtain⟨z,hzz⟩:=IHb.ar n e (k+1) cs h3 (by rw[hk];omega) fun i h1 h2=>hf i (by omega) (by omega)
        rw[hk] at hzz
        refine⟨(y,z),_,_,take_two,?_,?_,hat,hbt,by rw[hsa];exact hy,hzz⟩
        · rw[List.length_take,List.length_drop];omega
        · rw[List.length_take,List.length_drop];omega
    refine⟨fun t fuel cs x hc h=>?_,FS,AR⟩
    have hi:=chk_info hc rfl
    have hsz:=cellsOf_eq hi
    have hc2:(match P.underlying t with
      | some (.struct l)=>(chk P (.pr a b)).fs l.toList 0
      | some (.array n e)=>(chk P (.pr a b)).ar n e
      | _=>false)=true:=by
      simp only[chk,Bool.and_eq_true] at hc
      exact hc.2
    split at hc2
    · rename_i l hu
      obtain⟨xs,n,_,_,hl,hxl,hget⟩:=DataW.trod_struct hu h
      obtain⟨y,hy⟩:=FS l.toList 0 cs hc2 (by omega) fun f hf=>by
        obtain⟨i,hi⟩:=List.getElem?_of_mem hf
        have hi':l[i]?=some f:=by simpa using hi
        have:=hget i f hi'
        have hil:i<xs.length:=by rw[hxl];exact(Array.getElem?_eq_some_iff.1 hi').1
        rw[List.getElem?_eq_getElem hil] at this
        exact⟨n,_,this⟩
      refine⟨y,?_⟩
      have e:(cs.drop 0).take (Ty.pr a b).size=cs:=by rw[List.drop_zero,List.take_of_length_le (by omega)]
      rw[e] at hy
      exact hy
    · rename_i n e hu
      obtain⟨xs,m,_,_,hl,hxl,hget⟩:=DataW.trod_array hu h
      obtain⟨y,hy⟩:=AR n e 0 cs hc2 (by rw[Nat.zero_mul];omega) fun i _ hi=>by
        have:=hget i (by omega)
        rw[List.getElem?_eq_getElem (by omega)] at this
        exact⟨m,_,this⟩
      refine⟨y,?_⟩
      have e:(cs.drop (0*P.cellsOf e)).take (Ty.pr a b).size=cs:=by rw[Nat.zero_mul,List.drop_zero,List.take_of_length_le (by omega)]
      rw[e] at hy
      exact hy
    · cases hc2
  | _=>intro h;cases h
theorem open_val{P:Program} {W:World} {H:Type} {enc:TypeId×Value->H} {r:Reach} {b0:Nat} {t:TypeId} {v:Value} {d:DataW H} {ps:List MemPlace} {τ:Ty} (hc:((chk P τ).ty t&&szOk τ)=true) (hv:Value.okWide P W r b0 t v)
    (h:DataW.Trod enc P W 0 (fun _=>true) true t v d ps):∃ y:τ.D,RepV P τ W noOwn default y .o v/\τ.wf y:=by
  simp only[Bool.and_eq_true] at hc
  obtain⟨fuel,h⟩:=h
  obtain⟨y,hy⟩:=(opens τ hc.2 (P:=P) (w:=W) (enc:=enc) (held:=true)).ty t fuel _ _ hc.1 h
  refine⟨y,(repV_of (szOk_tup hc.2)).2 ?_,rep_wf τ hy⟩
  have hi:=chk_info hc.1 (by cases τ<;>first | rfl | cases hc.2)
  obtain⟨_,x,dd,hx,hd,hs,ha,_⟩:=infoB_spec hi
  unfold Value.okWide at hv
  rw[hd] at hv
  cases hag:τ.agg with
  | true =>
    rw[hag] at ha
    unfold ValOf
    cases dd<;>simp only[aggB] at ha<;>first
      | (cases ha;done)
      | (obtain⟨cs,rfl,_⟩:=hv
         refine⟨cs.toList,by simp,?_⟩
         simpa [Value.cells] using hy)
  | false =>
    unfold ValOf
    have hl:=hy.len (szOk_tup hc.2)
    have h1:τ.size=1:=size_one hag
    have hcell:v.cells.toList=[v]:=by
      cases v with
      | agg cs =>
        exfalso
        rw[hag] at ha
        cases dd<;>simp only[aggB] at ha<;>first
          | (cases ha;done)
          | (simp only[Cell.okWide,hd,Cell.ok] at hv)
      | _=>rfl
    rw[hcell] at hy
    exact hy
theorem law_calls{P:Program} {f:FuncId} {A:Ty} {ash:List Sh} {fr:Nat} {F:A.D->Option Bool} (hS:SoundC P f ⟨A,ash,[],.bool,.o,[],fr,F⟩) (hash:ash.all (fun s=>decide (s=.o))=true) {w:World} {args:List Value} {x:A.D}
    (ha:ArgsOk P w noOwn default A x ash args) (hF:F x=some true):Calls P f args.toArray w fun e w'=>e=.returned (.bool true)/\Below w.heap.size w w':=by
  have hown:own (inSt ⟨A,ash,[],.bool,.o,[],fr,F⟩ x) (default:Mp)=noOwn:=own_nil rfl rfl
  have hownN:ownN (inSt ⟨A,ash,[],.bool,.o,[],fr,F⟩ x) (default:Mp)=noOwn:=ownN_nil rfl rfl
  have hash':∀ h∈ash,h=Sh.o:=fun h hh=>of_decide_eq_true (List.all_eq_true.1 hash h hh)
  have hrel:Rel P w (ownN (inSt ⟨A,ash,[],.bool,.o,[],fr,F⟩ x) default) args.toArray.size (·<fr) default (inSt ⟨A,ash,[],.bool,.o,[],fr,F⟩ x) ⟨args.toArray,[]⟩ w:=by
    refine⟨fun n v hn=>?_,fun id v hv=>(by cases hv),fun id z v hv=>(by cases hv),fun k hk=>(by cases hk),fun b o hb=>?_,fun l l' b o h1 h2=>?_,Keeps.refl _ _,rfl,rfl,fun id v hv=>(by cases hv)⟩
    · obtain⟨_,k2,k3,k4⟩:=initSl_look (U:=(·<fr)) A x ash args 0 ha (fun h hh=>by rw[hash' h hh];trivial) n v hn
      rw[hown]
      refine⟨?_,k4⟩
      have e:args.toArray.getD n undef=args.getD (n-0) undef:=by simp [Array.getD_eq_getD_getElem?,List.getD_eq_getElem?_getD]
      show RepV P v.ty w noOwn default v.val v.sh (args.toArray.getD n undef)
      rw[e]
      exact k3
    · rw[hown] at hb;exact hb.elim
    · rw[(reg_nil rfl rfl h1).1,(reg_nil rfl rfl h2).1]
  refine(hS.2 w default args.toArray x hrel true hF).mono fun e w' he=>?_
  obtain⟨v,M',rfl,_,_,hout⟩:=he
  have hk:=hout.keep
  rw[hownN] at hk
  refine⟨?_,hk.below⟩
  have hv:=(hout.sl 0 ⟨.bool,true,.o⟩ rfl).1
  have hv:=rep_bool hv
  simp [Array.getD_eq_getD_getElem?] at hv
  rw[hv]
end Go.VX
/- VX, part 55: the words of what is printed: laws in plain Lean. -/
set_option linter.unusedVariables false
set_option linter.unusedSimpArgs false
namespace Go.VX
theorem bnd_mk{α β:Type} (a:α) (f:α->Option β):bnd (some a) f=f a:=rfl
theorem bnd_no{α β:Type} (f:α->Option β):bnd none f=none:=rfl
theorem cnd_t{α:Type} (x y:α):cnd true x y=x:=rfl
theorem cnd_f{α:Type} (x y:α):cnd false x y=y:=rfl
theorem bndS_l{α β:Type} (a:α) (f:α->Option β):bndS (some (.inl a)) f=f a:=rfl
theorem bndS_r{α β:Type} (b:β) (f:α->Option β):bndS (some (.inr b)) f=some b:=rfl
theorem inlE_mk{α β:Type} (a:α):(inlE a:Option (α ⊕ β))=some (.inl a):=rfl
theorem inrE_mk{α β:Type} (b:β):(inrE (some b):Option (α ⊕ β))=some (.inr b):=rfl
theorem bnd_id{α:Type} (x:Option α):bnd x some=x:=by cases x<;>rfl
theorem bnd_eta{α:Type} (x:Option α):(bnd x fun r=>some r)=x:=by cases x<;>rfl
theorem cnd_some_and(b c:Bool):cnd b (some c) (some false)=some (b&&c):=by cases b<;>rfl
theorem cnd_some_or(b c:Bool):cnd (!b) (some c) (some true)=some (b||c):=by cases b<;>rfl
theorem loopN_mono{σ ρ:Type} {f:σ->Option (σ ⊕ ρ)}:∀ {n m:Nat} {s:σ} {r:ρ},loopN f n s=some r->n<=m->loopN f m s=some r
 | 0,_,s,r,h,_=>by cases h
 | n+1,0,s,r,h,hm=>by omega
 | n+1,m+1,s,r,h,hm=>by
  simp only[loopN] at h ⊢
  split at h
  ·rename_i s' hs'
   exact loopN_mono h (by omega)
  ·exact h
  ·cases h
theorem loopP_of{σ ρ:Type} {f:σ->Option (σ ⊕ ρ)} {n:Nat} {s:σ} {r:ρ} (h:loopN f n s=some r):loopP f s=some r:=by
 unfold loopP
 split
 ·rename_i hx _
  cases hc:loopN f (Classical.choose hx) s with
  | none=>have:=Classical.choose_spec hx;rw[hc] at this;cases this
  | some r' =>
   have h1:=loopN_mono hc (Nat.le_max_left _ n)
   have h2:=loopN_mono h (Nat.le_max_right (Classical.choose hx) n)
   rw[h1] at h2
   exact h2
 ·rename_i hx _
  exact(hx ⟨n,by rw[h];rfl⟩).elim
theorem loop_rule{σ ρ:Type} {f:σ->Option (σ ⊕ ρ)} (I:σ->Prop) (μ:σ->Nat) (Q:ρ->Prop) (hstep:∀ s,I s->(∃ s',f s=some (.inl s')/\I s'/\μ s'<μ s)\/(∃ r,f s=some (.inr r)/\Q r)) (s:σ) (h0:I s) :
  ∃ r,loopP f s=some r/\Q r:=by
 have key:∀ n s,I s->μ s<n->∃ r,loopN f n s=some r/\Q r:=by
  intro n
  induction n with
  | zero=>intro s _ h;omega
  | succ n ih =>
   intro s hI hlt
   rcases hstep s hI with⟨s',h1,h2,h3⟩ | ⟨r,h1,h2⟩
   ·obtain⟨r,k1,k2⟩:=ih s' h2 (by omega)
    exact⟨r,by simp only[loopN,h1,k1],k2⟩
   ·exact⟨r,by simp only[loopN,h1],h2⟩
 obtain⟨r,h1,h2⟩:=key _ s h0 (Nat.lt_succ_self _)
 exact⟨r,loopP_of h1,h2⟩
theorem wr_id{x:Int} (h1:-9223372036854775808<=x) (h2:x<=9223372036854775807):wr .i64 x=x:=by
 simp only[wr,IntKind.wrap,IntKind.signed,IntKind.bits,Bool.true_and,if_true]
 split<;>(simp at *;omega)
theorem ati_get{α:Type} {l:List α} {i:Nat} (h:i<l.length):ati l (i:Int)=some l[i]:=by
 simp only[ati]
 rw[if_pos (by omega)]
 simp [h]
theorem ati_at{α:Type} {l:List α} {i:Int} (h0:0<=i) (h:i<l.length):∃ hi:i.toNat<l.length,ati l i=some l[i.toNat]:=by
 have hi:i.toNat<l.length:=by omega
 refine⟨hi,?_⟩
 simp only[ati]
 rw[if_pos h0,List.getElem?_eq_getElem hi]
theorem app_ok{α:Type} {lim:Nat} {xs ys:List α} (h:xs.length+ys.length<=lim):app lim xs ys=some (xs++ys):=if_pos h
theorem eqT_iff:∀ (t:Ty),eqOk t=true->∀ x y:t.D,eqT t x y=true↔x=y
 | .int _,_,x,y=>by simp [eqT]
 | .bool,_,x,y=>by simp [eqT]
 | .str,_,x,y=>by simp [eqT]
 | .unit,_,x,y=>by simp [eqT]
 | .pr a b,h,x,y=>by
  simp only[eqOk,Bool.and_eq_true] at h
  obtain⟨x1,x2⟩:=x
  obtain⟨y1,y2⟩:=y
  simp only[eqT,Bool.and_eq_true,eqT_iff a h.1,eqT_iff b h.2,Prod.mk.injEq]
theorem eq_loop{α β:Type} (eq:α->α->Bool) (he:∀ x y,eq x y=true↔x=y) (a b:List α) (hab:a.length=b.length) (hl:a.length<=9223372036854775807) (r0:β) (K:Unit->Option β) :
  (a=b/\bndS (loopP (fun(s2:Int×Unit)=>cnd (decide (s2.1<(a.length:Int))) (bnd (ati a s2.1) fun v3=>bnd (ati b s2.1) fun v4=>cnd (!eq v3 v4) (inrE (inrE (some r0))) (inlE (wr .i64 (s2.1+1),()))) (inrE (inlE ()))) (0,())) K=K ()) \/
  (a≠b/\bndS (loopP (fun(s2:Int×Unit)=>cnd (decide (s2.1<(a.length:Int))) (bnd (ati a s2.1) fun v3=>bnd (ati b s2.1) fun v4=>cnd (!eq v3 v4) (inrE (inrE (some r0))) (inlE (wr .i64 (s2.1+1),()))) (inrE (inlE ()))) (0,())) K=some r0):=by
 obtain⟨r,h1,h2⟩:=loop_rule (f:=fun(s2:Int×Unit)=>cnd (decide (s2.1<(a.length:Int))) (bnd (ati a s2.1) fun v3=>bnd (ati b s2.1) fun v4=>cnd (!eq v3 v4) (inrE (inrE (some r0))) (inlE (wr .i64 (s2.1+1),()))) (inrE (inlE ())))
  (fun s=>0<=s.1/\s.1<=a.length/\∀ i:Nat,i<s.1.toNat->a[i]?=b[i]?) (fun s=>a.length-s.1.toNat) (fun r=>(r=.inl ()/\a=b)\/(r=.inr r0/\a≠b)) (fun s ⟨i0,i1,i2⟩=>by
   by_cases hlt:s.1<a.length
   ·obtain⟨ha,e1⟩:=ati_at i0 hlt
    obtain⟨hb,e2⟩:=ati_at (l:=b) i0 (by omega)
    rw[decide_eq_true hlt,cnd_t,e1,bnd_mk,e2,bnd_mk]
    cases hq:eq a[s.1.toNat] b[s.1.toNat] with
    | true =>
     left
     have hw:wr .i64 (s.1+1)=s.1+1:=wr_id (by omega) (by omega)
     refine⟨(s.1+1,()),by rw[hw];rfl,⟨by dsimp only;omega,by dsimp only;omega,fun i hi=>?_⟩,by dsimp only;omega⟩
     dsimp only at hi
     by_cases hi2:i=s.1.toNat
     ·subst hi2
      rw[List.getElem?_eq_getElem ha,List.getElem?_eq_getElem hb,(he _ _).1 hq]
     ·exact i2 i (by omega)
    | false =>
     right
     refine⟨.inr r0,rfl,.inr ⟨rfl,fun e=>?_⟩⟩
     subst e
     have:=(he a[s.1.toNat] a[s.1.toNat]).2 rfl
     rw[hq] at this
     cases this
   ·right
    rw[decide_eq_false hlt,cnd_f]
    refine⟨.inl (),rfl,.inl ⟨rfl,List.ext_getElem? fun i=>?_⟩⟩
    by_cases hi:i<a.length
    ·exact i2 i (by omega)
    ·rw[List.getElem?_eq_none (by omega),List.getElem?_eq_none (by omega)]) (0,()) ⟨Int.le_refl _,by simp,fun i hi=>by simp at hi⟩
 rw[h1]
 rcases h2 with⟨rfl,h2⟩ | ⟨rfl,h2⟩
 ·exact .inl ⟨h2,rfl⟩
 ·exact .inr ⟨h2,rfl⟩
theorem cnd_if{α:Type} (b:Bool) (x y:α):cnd b x y=if b=true then x else y:=by cases b<;>rfl
theorem ite_some{α:Type} (P:Prop) [Decidable P] (a b:α):(if P then some a else some b)=some (if P then a else b):=by split<;>rfl
theorem inrE_ite{α β:Type} (b:β):(inrE (some b):Option (α ⊕ β))=some (.inr b):=rfl
theorem bndS_ite{α β:Type} (P:Prop) [Decidable P] (a:α) (b:β) (f:α->Option β):bndS (some (if P then .inl a else .inr b)) f=if P then f a else some b:=by split<;>rfl
theorem all_loop{ρ:Type} (n:Nat) (p:Nat->Prop) [∀ i,Decidable (p i)] (f:Int×Unit->Option ((Int×Unit) ⊕ ρ)) (r0 r1:ρ)
  (h1:∀ i:Nat,i<n->(∀ j,j<i->p j)->f ((i:Int),())=if p i then some (.inl ((i:Int)+1,())) else some (.inr r0))
  (h2:(∀ j,j<n->p j)->f ((n:Int),())=some (.inr r1)) [Decidable (∀ j,j<n->p j)] :
  loopP f (0,())=some (if ∀ j,j<n->p j then r1 else r0):=by
 obtain⟨r,e,h⟩:=loop_rule (f:=f) (fun s=>0<=s.1/\s.1<=n/\∀ j:Nat,j<s.1.toNat->p j) (fun s=>n-s.1.toNat) (fun r=>r=if ∀ j,j<n->p j then r1 else r0) (fun s ⟨i0,i1,i2⟩=>by
  obtain⟨i,_⟩:=s
  dsimp only at *
  obtain⟨k,rfl⟩:∃ k:Nat,i=k:=⟨i.toNat,by omega⟩
  by_cases hk:k<n
  ·have e:=h1 k hk (fun j hj=>i2 j (by omega))
   by_cases hp:p k
   ·left
    rw[if_pos hp] at e
    refine⟨_,e,⟨by dsimp only;omega,by dsimp only;omega,fun j hj=>?_⟩,by dsimp only;omega⟩
    dsimp only at hj
    by_cases hjk:j=k
    ·exact hjk ▸ hp
    ·exact i2 j (by omega)
   ·right
    rw[if_neg hp] at e
    refine⟨_,e,?_⟩
    rw[if_neg fun h=>hp (h k hk)]
  ·right
   have hkn:k=n:=by omega
   subst hkn
   have ha:∀ j,j<k->p j:=fun j hj=>i2 j (by omega)
   exact⟨_,h2 ha,by rw[if_pos ha]⟩) (0,()) ⟨Int.le_refl _,by dsimp only;omega,fun j hj=>by simp at hj⟩
 rw[e,h]
theorem wr_succ{n i:Nat} (hi:i<n) (hn:n<=9223372036854775807):wr .i64 ((i:Int)+1)=(i:Int)+1:=wr_id (by omega) (by omega)
theorem lt_true{n i:Nat} (hi:i<n):decide ((i:Int)<(n:Int))=true:=decide_eq_true (by omega)
theorem lt_false(n:Nat):decide ((n:Int)<(n:Int))=false:=decide_eq_false (by omega)
def nth{α:Type} (z:α) (l:List α) (i:Nat):α:=l.getD i z
theorem ati_d{α:Type} (z:α) {l:List α} {i:Nat} (h:i<l.length):ati l (i:Int)=some (nth z l i):=by
 rw[ati_get h];simp [nth,List.getD,h]
theorem ati_0{α:Type} (z:α) {l:List α} (h:0<l.length):ati l 0=some (nth z l 0):=ati_d z h
theorem ati_last{α:Type} (z:α) {l:List α} (h:0<l.length) (hl:l.length<=9223372036854775807):ati l (wr .i64 ((l.length:Int)-1))=some (nth z l (l.length-1)):=by
 rw[wr_id (by omega) (by omega),show(l.length:Int)-1=((l.length-1:Nat):Int) by omega]
 exact ati_d z (by omega)
theorem ati_pred{α:Type} (z:α) {l:List α} {i:Nat} (h0:0<i) (h:i<l.length) (hl:l.length<=9223372036854775807):ati l (wr .i64 ((i:Int)-1))=some (nth z l (i-1)):=by
 rw[wr_id (by omega) (by omega),show(i:Int)-1=((i-1:Nat):Int) by omega]
 exact ati_d z (by omega)
theorem eqT_dec(t:Ty) (h:eqOk t=true) (x y:t.D) [Decidable (x=y)]:eqT t x y=decide (x=y):=by
 rw[Bool.eq_iff_iff,eqT_iff t h,decide_eq_true_eq]
theorem if_swap{α:Type} {P Q:Prop} {_:Decidable P} {_:Decidable Q} {a b:α} (h:P↔¬ Q):(if P then a else b)=if Q then b else a:=by
 by_cases q:Q
 ·rw[if_pos q,if_neg fun p=>h.1 p q]
 ·rw[if_neg q,if_pos (h.2 q)]
theorem if_same{α:Type} {P Q:Prop} {_:Decidable P} {_:Decidable Q} {a b:α} (h:P↔Q):(if P then a else b)=if Q then a else b:=by
 by_cases q:Q
 ·rw[if_pos q,if_pos (h.2 q)]
 ·rw[if_neg q,if_neg fun p=>q (h.1 p)]
theorem all_as{ρ:Type} (Q:Prop) [Decidable Q] (n:Nat) (p:Nat->Prop) [∀ i,Decidable (p i)] (f:Int×Unit->Option ((Int×Unit) ⊕ ρ)) (r0 r1:ρ) (hQ:Q↔∀ j,j<n->p j)
  (h1:∀ i:Nat,i<n->(∀ j,j<i->p j)->f ((i:Int),())=if p i then some (.inl ((i:Int)+1,())) else some (.inr r0))
  (h2:(∀ j,j<n->p j)->f ((n:Int),())=some (.inr r1)) :
  loopP f (0,())=some (if Q then r1 else r0):=by
 haveI:Decidable (∀ j,j<n->p j):=Classical.propDecidable _
 rw[all_loop n p f r0 r1 h1 h2]
 exact congrArg some (if_same hQ.symm)
theorem nth_mem{α:Type} {z:α} {l:List α} {i:Nat} (h:i<l.length):nth z l i∈l:=by
 simp [nth,List.getD,h]
theorem ite_dec{A B C:Prop} {_:Decidable A} {_:Decidable B} {_:Decidable (A/\C)} (h:B↔C):(if A then decide B else false)=decide (A/\C):=by
 rw[Bool.eq_iff_iff]
 by_cases a:A
 ·rw[if_pos a,decide_eq_true_eq,decide_eq_true_eq,h]
  exact⟨fun c=>⟨a,c⟩,fun c=>c.2⟩
 ·rw[if_neg a,decide_eq_false fun c=>a c.1]
end Go.VX
/- VX, part 61: slices.Insert: steps of its walk. -/
set_option linter.unusedVariables false
set_option linter.unusedSimpArgs false
namespace Go.VX
theorem info2{P:Program} {e:TypeId} {s b:Nat} (h:(P.info? e).map (fun i=>(i.size,i.bytes))=some (s,b)):∃ i,P.info? e=some i/\i.size=s/\i.bytes=b:=by
 cases hi:P.info? e with
 | none=>rw[hi] at h;cases h
 | some i=>rw[hi] at h;cases h;exact⟨i,rfl,rfl,rfl⟩
theorem step_copyK{P:Program} {ops:Array Oper} {o:Oper} {a:Act} {w:World} {K:Act->World->Prop} {Q:Exit->Act->World->Prop} {E:Prop}
  (hg:o.guard=none) (d x:Operand) (dT sT:TypeId) (hop:o.op=Op.call { callee:=Callee.builtin Builtin.copy,args:=#[d,x],argTypes:=#[dT,sT] })
  (v u:Value) (hd:a.eval d=v) (hx:a.eval x=u) {v':Value} {w':World} (hr:(Builtin.copy_ #[dT,sT] o.type #[v,u]).run P w=.ok v' w') (hK:K (a.put o.dst v') w') :
  if Region.wanted o (yielded ops a.tmps)=true then Oper.wp P o a w K Q else E:=by
 have hw:Region.wanted o (yielded ops a.tmps)=true:=by simp [Region.wanted,hg]
 rw[if_pos hw]
 unfold Oper.wp
 simp [execOp,hop,resolve,invoke,builtin,hd,hx,hr,Result.andThen]
 exact hK
theorem wpList_copyK{P:Program} (w:World) {ops:Array Oper} {rest:List Oper} {o:Oper} {a:Act} {Q:Exit->Act->World->Prop} (hgd:o.guard=none) (d s:Operand) (t t':TypeId)
  (ho:o.op=.call { callee:=.builtin .copy,args:=#[d,s],argTypes:=#[t,t'] }) (v u:Value) (hd:a.eval d=v) (hs:a.eval s=u) {v':Value} {w':World}
  (hr:(Builtin.copy_ #[t,t'] o.type #[v,u]).run P w=.ok v' w') (h:wpList P ops Q rest (a.put o.dst v') w'):wpList P ops Q (o::rest) a w :=
 wpList_plain hgd fun _ hK=>by
  unfold Oper.wp
  simp only[execOp,ho,resolve,invoke,builtin,Sem.run_bind,Sem.run_pure,Result.andThen_ok,List.map_toArray,List.map_cons,List.map_nil,hd,hs,hr]
  exact hK _ _ h
end Go.VX
