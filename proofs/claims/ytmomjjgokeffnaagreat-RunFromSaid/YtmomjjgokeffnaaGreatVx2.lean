/- A checked evaluator: part 2 of what proves that a function of the program computes what is printed of it. It is sound at every world of the model. -/
import Derived.Test.YtmomjjgokeffnaaGreatVx1
import Derived.Laws.Slices
import Derived.Laws.BytesArg
import Derived.Laws.IdiomStrings
import Derived.ArgAppend
import Derived.Lib.AppendZerosOnto
import Derived.Laws.Externs
import Derived.MapKept
/- VX, part 20: slices of slices, conversions, lengths. -/
set_option linter.unusedVariables false
set_option linter.unusedSimpArgs false
namespace Go.VX
theorem Rel.valueX{P:Program} {w0:World} {I:Own} {nt:Nat} {U U':Nat->Prop} {M:Mp} {st:St} {a:Act} {w w':World} (h:Rel P w0 I nt U M st a w) {dst:Option Tmp}
  (hd:∀ d,dst=some d->d<nt) (hU:∀ k,U k->U' k) (hk:Keeps noOwn w w') {u:Option Vl} {v:Value} (hr:∀ x,u=some x->RepV P x.ty w' (own st M) M x.val x.sh v/\ShIn U' x.sh) {fr:Nat} :
  Rel P w0 I nt U' M (st.patch dst { v:=u,fr:=fr }) (a.put dst v) w':=by
 have ho:own (st.patch dst { v:=u,fr:=fr }) M=own st M:=own_congr (fun _=>rfl) (fun _=>rfl)
 refine h.step hd (W:=noOwn) (fun l=>l) (.s 1) hU (Agree.refl _ _) hk (fun _ _ h=>h.elim) (pv:=u) (fun n=>?_) (fun x hx=>by rw[ho];exact hr x hx) (fun l b o hl=>.inl ⟨l,(by rcases l with(_ | n) | n | n<;>exact hl),rfl⟩)
  (fun id v hv=>.inl ⟨hv,fun _ _ _ h=>h⟩) (fun id z v hv=>.inl hv) (fun k hk=>hU k (h.tk k hk)) (fun _ _ hk _=>hk)
 cases dst with
 | none=>simp [St.patch]
 | some d=>simp only[St.patch,look_cons,Option.some.injEq]
theorem Rel.deadV{P:Program} {w0:World} {I:Own} {nt:Nat} {U:Nat->Prop} {M:Mp} {st:St} {a:Act} {w w':World} {ds:List (Nat×Bx)} (h:Rel P w0 I nt U M { st with bx:=putL ds st.bx } a w) {dst:Option Tmp}
  (hd:∀ d,dst=some d->d<nt) {id:Nat} (hk:Keeps noOwn w w') {u:Vl} {v:Value} (hr:RepV P u.ty w' (own { st with bx:=putL ds st.bx } M) M u.val u.sh v) (hs:ShIn U u.sh) :
  Rel P w0 I nt (fun k=>U k\/(id<=k/\k<id+1)) M (st.patch dst { v:=some u,bs:=ds }) (a.put dst v) w':=by
 have:=h.valueX (U':=fun k=>U k\/(id<=k/\k<id+1)) hd (fun k hk=>.inl hk) hk (u:=some u) (v:=v) (fr:=1) (fun x hx=>by cases hx;exact⟨hr,hs.mono (fun k hk=>.inl hk) _⟩)
 exact this.congr (fun _=>rfl) (fun _=>rfl) (fun _=>rfl)
theorem run_bounds{P:Program} {isS:Bool} {len cap:Nat} {lo hi:Option Value} {la hb:Int} (hlo:(lo=none/\la=0)\/∃ k,lo=some (.int k la)) (hhi:(hi=none/\hb=len)\/∃ k,hi=some (.int k hb))
  (h0:0<=la) (h1:la<=hb) (h2:hb<=len) (hc:len<=cap) {w:World}:(Instr.sliceBounds isS len cap lo hi none).run P w=.ok (la.toNat,hb.toNat,cap) w:=by
 rcases hlo with⟨rfl,rfl⟩ | ⟨k,rfl⟩<;>rcases hhi with⟨rfl,rfl⟩ | ⟨k',rfl⟩
 ·simp only[Instr.sliceBounds,Sem.run_bind,Sem.run_pure,Result.andThen_ok,Int.toNat_natCast,Int.toNat_zero]
 ·simp only[Instr.sliceBounds,Sem.run_bind,Sem.run_pure,Result.andThen_ok,run_sliceBound w k' hb cap _ (by omega) (by omega),Int.toNat_zero]
 ·simp only[Instr.sliceBounds,Sem.run_bind,Sem.run_pure,Result.andThen_ok,run_sliceBound w k la len _ (by omega) (by omega),Int.toNat_natCast]
 ·simp only[Instr.sliceBounds,Sem.run_bind,Sem.run_pure,Result.andThen_ok,run_sliceBound w k' hb cap _ (by omega) (by omega),run_sliceBound w k la hb.toNat _ (by omega) (by omega)]
theorem sub_some{α:Type} {l r:List α} {lo hi:Int} (h:sub l lo hi=some r):0<=lo/\lo<=hi/\hi<=l.length/\r=(l.take hi.toNat).drop lo.toNat:=by
 unfold sub at h
 split at h
 ·rename_i h1;cases h;exact⟨h1.1,h1.2.1,h1.2.2,rfl⟩
 ·cases h
theorem sub_len{α:Type} {l:List α} {lo hi:Nat} (h1:lo<=hi) (h2:hi<=l.length):((l.take hi).drop lo).length=hi-lo:=by
 rw[List.length_drop,List.length_take];omega
theorem sub_get{α:Type} {l:List α} {lo hi i:Nat} {x:α} (h:((l.take hi).drop lo)[i]?=some x):l[lo+i]?=some x:=by
 rw[List.getElem?_drop,List.getElem?_take] at h
 split at h
 ·exact h
 ·cases h
theorem strOf_extract{s:ByteArray} {a b:Nat}:strOf (s.extract a b)=((strOf s).take b).drop a:=by
 unfold strOf
 rw[ByteArray.data_extract,Array.toList_extract,List.extract_eq_take_drop,← List.map_take,← List.map_drop,List.drop_take]
theorem opt_lo{st:St} {E:Env} {P:Program} (hE:EnvOk P E) {w0:World} {I:Own} {nt:Nat} {U:Nat->Prop} {M:Mp} {a:Act} {w:World} (h:Rel P w0 I nt U M st a w) {lo:Option Operand} {k:IntKind} {la:Int} {s:Sh}
  (hl:Opd st E (lo.getD (.const (.int .i64 0))) none ⟨.int k,la,s⟩):(lo.map a.eval=none/\la=0)\/∃ k,lo.map a.eval=some (.int k la):=by
 cases lo with
 | none =>
  left
  obtain⟨k',e⟩:=opd_const hl (c:=0) rfl
  cases e
  exact⟨rfl,rfl⟩
 | some x =>
  right
  obtain⟨r,_⟩:=opd_rep hE h hl
  obtain⟨e,_⟩:=rep_int r
  exact⟨k,by rw[Option.map_some];exact congrArg some e⟩
theorem goes_hi{st:St} {E:Env} {P:Program} (hE:EnvOk P E) {w0:World} {I:Own} {nt:Nat} {U:Nat->Prop} {M:Mp} {a:Act} {w:World} (h:Rel P w0 I nt U M st a w) {ω:Bool} {hi:Option Operand} {n:Nat} {k:Int->RM} {p:Patch} {f:List Loc}
  (g:Goes st ω (sliceHi E hi n k) p f):∃ hb f',Goes st ω (k hb) p f'/\((hi.map a.eval=none/\hb=n)\/∃ k,hi.map a.eval=some (.int k hb)):=by
 unfold sliceHi at g
 split at g
 ·exact⟨_,_,g,.inl ⟨rfl,rfl⟩⟩
 ·obtain⟨v,f',hv,g,_⟩:=goes_opd g
  split at g
  ·rename_i k' hb s
   obtain⟨r,_⟩:=opd_rep hE h hv
   obtain⟨e,_⟩:=rep_int r
   exact⟨_,_,g,.inr ⟨k',by rw[Option.map_some];exact congrArg some e⟩⟩
  ·cases g
theorem run_sliceSl{P:Program} {t et:TypeId} (hun:P.underlying t=some (.slice et)) {xi:TypeInfo} (hx:P.info? et=some xi) {a:Option (Nat×Nat)} {n c:Nat} {lo hi:Option Value} {la hb:Int}
  (hlo:(lo=none/\la=0)\/∃ k,lo=some (.int k la)) (hhi:(hi=none/\hb=n)\/∃ k,hi=some (.int k hb)) (h0:0<=la) (h1:la<=hb) (h2:hb<=n) (hc:n<=c) {w:World} {xv:Value} (ex:xv=.slice (a.map adr) n c) :
  (Instr.sliceAt t xv lo hi none).run P w=.ok (.slice ((if c=la.toNat then a else a.map fun p=>(p.1,p.2+la.toNat*xi.size)).map adr) (hb.toNat-la.toNat) (c-la.toNat)) w:=by
 subst ex
 simp only[Instr.sliceAt,Instr.slice,Sem.run_bind,run_underlying hun,Result.andThen_ok,run_bounds hlo hhi h0 h1 h2 hc,run_sizeOf hx,Sem.run_pure]
 congr 2
 by_cases he:c=la.toNat
 ·simp only[if_pos he]
 ·simp only[if_neg he]
  cases a with
  | none=>rfl
  | some p=>simp only[Option.map_some,adr,adr_add]
theorem run_sliceArr{P:Program} {t et:TypeId} {n:Nat} (hun:P.underlying t=some (.array n et)) {xi:TypeInfo} (hx:P.info? et=some xi) {b o:Nat} {lo:Option Value} {la:Int}
  (hlo:(lo=none/\la=0)\/∃ k,lo=some (.int k la)) (h0:0<=la) (h1:la<=n) {w:World} {xv:Value} (ex:xv=.pointer (some ⟨b,o,none⟩)) :
  (Instr.sliceAt t xv lo none none).run P w=.ok (.slice ((if n=la.toNat then some (b,o) else some (b,o+la.toNat*xi.size)).map adr) (n-la.toNat) (n-la.toNat)) w:=by
 subst ex
 have hb:=run_bounds (P:=P) (isS:=false) (len:=n) (cap:=n) (lo:=lo) (hi:=none) (la:=la) (hb:=n) (w:=w) hlo (.inl ⟨rfl,rfl⟩) h0 h1 (Int.le_refl _) (Nat.le_refl _)
 simp only[Int.toNat_natCast] at hb
 simp only[Instr.sliceAt,Instr.sureAddr,Sem.run_bind,run_underlying hun,Result.andThen_ok,hb,run_sizeOf hx,Sem.run_pure]
 congr 2
 by_cases he:n=la.toNat
 ·simp only[if_pos he];rfl
 ·simp only[if_neg he,adr_add];rfl
theorem run_sliceW{P:Program} {t et:TypeId} (hun:P.underlying t=some (.slice et)) {xi:TypeInfo} (hx:P.info? et=some xi) {x:Addr} {lo hi:Option Value} {la hb:Int}
  (hlo:(lo=none/\la=0)\/∃ k,lo=some (.int k la)) (hhi:(hi=none/\hb=(0:Nat))\/∃ k,hi=some (.int k hb)) (h0:0<=la) (h1:la<=hb) (h2:hb<=(0:Nat)) {w:World} {xv:Value} (ex:xv=.slice (some x) 0 0) :
  (Instr.sliceAt t xv lo hi none).run P w=.ok (.slice (some x) 0 0) w:=by
 subst ex
 simp only[Instr.sliceAt,Instr.slice,Sem.run_bind,run_underlying hun,Result.andThen_ok,run_bounds hlo hhi h0 h1 h2 (Nat.le_refl 0),run_sizeOf hx,Sem.run_pure]
 have:la=0:=by omega
 subst this
 have:hb=0:=by omega
 subst this
 rfl
theorem rep_sub{P:Program} {e:Ty} {w:World} {O:Own} {M:Mp} {l:List e.D} {h:Sh} (hpl:h.plain=true) {a:Option (Nat×Nat)} {n c:Nat} (r:True/\n=List.length l/\LeC n c/\(a=none->c=0)/\SlSh M h a n c e.size (∀ p,a=some p->Elems (fun y es=>RepC P e w O M y .o es) w O e.size p l)) {la hb:Int}
  (h0:0<=la) (h1:la<=hb) (h2:hb<=l.length) :
  RepV P (.sl e) w O M ((l.take hb.toNat).drop la.toNat) .o (.slice ((if c=la.toNat then a else a.map fun p=>(p.1,p.2+la.toNat*e.size)).map adr) (hb.toNat-la.toNat) (c-la.toNat)):=by
 obtain⟨e1,e2,e3,e4,e5⟩:=r
 have hE:=slSh_plain e5 hpl
 have hlen:((l.take hb.toNat).drop la.toNat).length=hb.toNat-la.toNat:=sub_len (by omega) (by omega)
 refine(repV_of rfl).2 ⟨_,_,_,.inl rfl,hlen.symm,⟨by omega,by omega⟩,fun hn=>?_,fun p hp=>?_⟩
 ·split at hn
  ·omega
  ·rw[Option.map_eq_none_iff] at hn
   have:=e4 hn
   omega
 ·intro i x hi
  have hi':=(List.getElem?_eq_some_iff.1 hi).1
  have hi2:=sub_get hi
  split at hp
  ·have:((l.take hb.toNat).drop la.toNat).length=0:=by rw[hlen];omega
   omega
  ·rw[Option.map_eq_some_iff] at hp
   obtain⟨q,hq,rfl⟩:=hp
   obtain⟨es,k1,k2,k3⟩:=hE q hq _ _ hi2
   refine⟨es,k1,?_,k3⟩
   dsimp only
   rw[Nat.add_assoc,← Nat.add_mul]
   exact k2
end Go.VX
/- VX, part 21: slices of slices, conversions, lengths: the operations. -/
set_option linter.unusedVariables false
set_option linter.unusedSimpArgs false
namespace Go.VX
theorem op_dead{P:Program} {w0:World} {I:Own} {nt:Nat} {U:Nat->Prop} {M:Mp} {st:St} {a:Act} {w w':World} {ds:List (Nat×Bx)} (h:Rel P w0 I nt U M { st with bx:=putL ds st.bx } a w) {o:Oper}
  (hd:∀ d,o.dst=some d->d<nt) {id:Nat} (hk:Keeps noOwn w w') {u:Vl} {v:Value} (hx:(execOp a.eval o).run P w=.ok (.value v) w')
  (hr:RepV P u.ty w' (own { st with bx:=putL ds st.bx } M) M u.val u.sh v) (hs:ShIn U u.sh) :
  StepOk P o a w fun v w'=>∃ M',Agree U M M'/\Rel P w0 I nt (fun k=>U k\/(id<=k/\k<id+1)) M' (st.patch o.dst { v:=some u,bs:=ds }) (a.put o.dst v) w' :=
 StepOk.value hx ⟨M,Agree.refl _ _,h.deadV hd hk hr hs⟩
theorem vw_some{n:Nat} {lo hi:Int} {q:Bool×Int×Int} (h:vw n lo hi=some q):0<=lo/\lo<=hi/\hi<=n/\q=(true,lo,hi):=by
 unfold vw at h
 split at h
 ·rename_i h1;cases h;exact⟨h1.1,h1.2.1,h1.2.2,rfl⟩
 ·cases h
theorem ok_slice{P:Program} {E:Env} (hE:EnvOk P E) {o:Oper} {m:Bool} {t:TypeId} {x:Operand} {lo hi:Option Operand} (ho:o.op=.slice t x lo hi none):OpOk P E o m:=by
 intro w0 I nt U M st a w id h hd
 refine⟨false,fun ω _ p f hg hfr=>?_⟩
 simp only[evOp,ho] at hg
 obtain⟨u,_,hu,hg,_⟩:=goes_opd hg
 obtain⟨v,_,hv,hg,_⟩:=goes_opd hg
 obtain⟨ru,su⟩:=opd_rep hE h hu
 have hex:∀ r w',(Instr.sliceAt t (a.eval x) (lo.map a.eval) (hi.map a.eval) none).run P w=.ok r w'->(execOp a.eval o).run P w=.ok (.value r) w':=fun r w' e=>by
  simp only[execOp,ho,Sem.run_bind,Option.map_none,e,Result.andThen_ok,Sem.run_pure]
 split at hg
 ·rename_i k la s
  have hlo:=opt_lo hE h hv
  split at hg
  ·
   rename_i l sl
   split at hg
   ·rename_i hty
    have hty:=of_decide_eq_true hty
    obtain⟨hb,_,hg,hhi⟩:=goes_hi hE h hg
    obtain⟨r,hr,hg⟩:=goes_eff hg
    have hp:=goes_retV hg
    subst hp
    obtain⟨h0,h1,h2,rfl⟩:=sub_some hr
    obtain⟨sv,e1,e2,e3⟩:=rep_str ru
    dsimp only at e1 e2 e3
    subst e2
    rw[strOf_length] at h2 hhi
    refine op_ret h hd (v':=.string (sv.extract la.toNat hb.toNat)) (hex _ _ ?_) ⟨_,rfl,strOf_extract,?_⟩ trivial
    ·rw[e1]
     simp only[Instr.sliceAt,Instr.slice,Sem.run_bind,run_underlying (chk_str (hE.ty _ _ hty)),Result.andThen_ok,Option.isSome_none,Bool.false_eq_true,if_false,Sem.run_pure,
      run_bounds hlo hhi h0 h1 h2 (Nat.le_refl _)]
    ·show List.length (List.drop _ (List.take _ _))<=_
     rw[List.length_drop,List.length_take]
     omega
   ·cases hg
  ·
   rename_i xx b _
   split at hg
   ·rename_i e r hτ' _ _
    split at hτ'<;>try cases hτ'
    rename_i harr
    have hτ:=hτ'
    have hchk:=hE.ty _ _ hτ
    obtain⟨c,_,hc,hg,_⟩:=goes_rdW hg
    split at hg
    ·rename_i y hy hble
     split at hg
     ·rename_i l hl
      obtain⟨q,hq,hg⟩:=goes_eff hg
      cases hg
      obtain⟨hcp,hy⟩:=castV_eq hy
      obtain⟨tc,vc,sc⟩:=c
      obtain⟨e2,rfl⟩:=castTo_eq hy
      dsimp only at e2
      subst e2
      obtain⟨len,et,hun⟩:=(hE.arr _ _ hτ).1 harr
      have har:=arr_of hchk hun
      obtain⟨hlen,hall⟩:=chk_arr _ _ _ har
      have hem:e.mem=true:=part_mem _ (infoB_spec (chk_info hchk rfl)).1 (f:=0) rfl
      obtain⟨_,xi,d,hx,_,hs,_⟩:=infoB_spec (chk_info (hall 0 e rfl) (mem_std hem))
      obtain⟨pp,e1,e3⟩:=rep_ptr ru
      dsimp only[PtrSh] at e1 e3
      subst e3
      obtain⟨h0,h1,h2,rfl⟩:=sub_some hq
      have hll:=arrL_len _ _ hl
      have hln:l.length=len:=hll.trans hlen.symm
      rw[hln] at h1
      have hrun:=run_sliceArr (P:=P) (w:=w) hun hx hlo h0 h1 e1
      have hk:=h.kill b
      obtain⟨ht,cs,rc,kc⟩:=(BoxOk.plain (by rfl)).1 (h.bx _ _ hc).1
      obtain⟨m1,m2⟩:=arrL_rep _ rc hcp hl
      refine op_dead (ds:=[(b,.dead)]) hk hd (Keeps.refl _ _) (hex _ _ (by rw[Option.map_none];exact hrun)) ?_ trivial
      have hb:=Nat.le_of_ble_eq_true hble
      have hsl:=sub_len (l:=l) (lo:=la.toNat) (hi:=len) (by omega) (by omega)
      rw[show((l.length:Int).toNat)=len by omega]
      refine(repV_of rfl).2 ⟨_,_,_,.inl rfl,hsl.symm,⟨Nat.le_refl _,by omega⟩,fun hn=>(by split at hn<;>cases hn),fun p hp=>?_⟩
      intro i z hi
      have hi':=(List.getElem?_eq_some_iff.1 hi).1
      have hi2:=sub_get hi
      have hi3:=(List.getElem?_eq_some_iff.1 hi2).1
      have hlc:(l.length)*e.size=cs.length:=m1.symm
      have hfit:(la.toNat+i+1)*e.size<=l.length*e.size:=Nat.mul_le_mul_right _ (by omega)
      rw[Nat.succ_mul] at hfit
      split at hp
      ·dsimp only at hi';omega
      ·cases hp
       refine⟨_,chunk_get m1 hi3,fun j u hj=>⟨?_,?_⟩,(m2 _ _ hi2 M).mono P _ (Ext.refl _ _) (fun b o _=>own_kill) trivial⟩
       ·have:=kc _ _ (drop_take_get hj)
        rw[← this]
        congr 2
        dsimp only
        rw[hs,Nat.add_mul]
        omega
       ·rintro⟨l',hl'⟩
        obtain⟨g1,g2⟩:=reg_kill hl'
        refine g2 (h.dis _ _ _ _ g1 ⟨_,hc,(inBox.plain rfl).2 ⟨rfl,?_,?_⟩⟩)
        ·dsimp only;omega
        ·have hj':j<e.size:=by
          have:=(List.getElem?_eq_some_iff.1 hj).1
          rwa [chunk_get m1 hi3] at this
         have hcl:=rc.len ht
         dsimp only at hcl ⊢
         rw[hs]
         rw[Nat.add_mul] at hfit
         omega
     ·cases hg
    ·cases hg
   ·cases hg
  ·
   cases m with
   | true =>
    dsimp only at hg
    split at hg
    ·rename_i k l b
     split at hg
     ·rename_i hty
      have hty:=of_decide_eq_true hty
      obtain⟨hb,_,hg,hhi⟩:=goes_hi hE h hg
      obtain⟨q,hq,hg⟩:=goes_eff hg
      cases hg
      obtain⟨h0,h1,h2,rfl⟩:=vw_some hq
      obtain⟨et,hun,hec,hem⟩:=chk_sl (hE.ty _ _ hty)
      obtain⟨_,xi,d,hx,_,hs,_⟩:=infoB_spec (chk_info hec (mem_std hem))
      obtain⟨pa,n,c,e1,e2,e3,e4,e5⟩:=rep_sl ru
      dsimp only[SlSh] at e2 e5
      subst e2
      replace e1:=e1.val rfl
      have hrun:=run_sliceSl (P:=P) (w:=w) hun hx hlo hhi h0 h1 h2 e3.1 e1
      rw[hs] at hrun
      refine op_ret h hd (hex _ _ hrun) ⟨_,_,rfl,fun hl=>?_⟩ su
      dsimp only at hl ⊢
      have hle:=e3.1
      have hcl:¬ c=la.toNat:=by omega
      rw[if_neg hcl]
      cases pa with
      | none=>have:=e4 rfl;omega
      | some p=>exact⟨p,by rw[e5],by simp [adr,Ty.size]⟩
     ·cases hg
    ·cases hg
   | false =>
    dsimp only at hg
    obtain⟨u',ds,_,hg,hrel,rv,sv,hpl,hty',_,_,_⟩:=asVal_ok h hg ru su (fun _ _ _ _ _ _ h=>h)
    split at hg
    ·rename_i e l sl
     split at hg
     ·rename_i hty
      have hty:=of_decide_eq_true hty
      obtain⟨hb,_,hg,hhi⟩:=goes_hi hE h hg
      obtain⟨r,hr,hg⟩:=goes_eff hg
      cases hg
      obtain⟨h0,h1,h2,rfl⟩:=sub_some hr
      obtain⟨et,hun,hec,hem⟩:=chk_sl (hE.ty _ _ hty)
      obtain⟨_,xi,d,hx,_,hs,_⟩:=infoB_spec (chk_info hec (mem_std hem))
      obtain⟨pa,n,c,e1,e2,e3,e4,e5⟩:=rep_sl rv
      dsimp only at e2
      subst e2
      rcases e1 with e1 | ⟨hlo',rfl,x,p,e1,rfl⟩
      ·have e1:=List.singleton_inj.1 e1
       have hrun:=run_sliceSl (P:=P) (w:=w) hun hx hlo hhi h0 h1 h2 e3.1 e1
       rw[hs] at hrun
       exact op_dead hrel hd (Keeps.refl _ _) (hex _ _ hrun) (rep_sub hpl ⟨trivial,rfl,e3,e4,e5⟩ h0 h1 h2) trivial
      ·have e1:=List.singleton_inj.1 e1
       have hl0:l.length=0:=by have:=e3.1;omega
       have hl1:l=[]:=List.eq_nil_of_length_eq_zero hl0
       subst hl1
       have hrun:=run_sliceW (P:=P) (w:=w) hun hx hlo hhi h0 h1 h2 e1
       refine op_dead hrel hd (Keeps.refl _ _) (hex _ _ hrun) ?_ trivial
       refine(repV_of rfl).2 ⟨some p,0,0,.inr ⟨rfl,rfl,x,p,rfl,rfl⟩,by simp,⟨Nat.le_refl _,Nat.zero_le _⟩,fun h=>(by cases h),fun p' hp' i z hi=>?_⟩
       simp at hi
     ·cases hg
    ·cases hg
 ·cases hg
end Go.VX
/- VX, part 22: conversions, lengths, least and greatest. -/
set_option linter.unusedVariables false
set_option linter.unusedSimpArgs false
namespace Go.VX
theorem und_some{P:Program} {E:Env} (hE:EnvOk P E) {s:TypeId} {t:Ty} (h:look E.ty s=some t) (ht:t.std=true):∃ d,P.underlying s=some d:=by
 obtain⟨_,x,d,_,hd,_⟩:=infoB_spec (chk_info (hE.ty _ _ h) ht)
 exact⟨d,hd⟩
theorem conv_bytes{P:Program} {w:World} {src dst e:TypeId} (hs:P.underlying src=some (.slice e)) (he:P.underlying e=some (.int .u8)) (hd:P.underlying dst=some .string)
  {ya:Option Addr} {c:Nat} {l:List Int} (h0:ya=none->l=[]) (hb:∀ y∈l,IntKind.u8.min<=y/\y<=IntKind.u8.max)
  (hc:∀ p,ya=some p->∀ i y,l[i]?=some y->w.cell? (p.add i)=some (.int .u8 y)) {xv:Value} (ex:xv=.slice ya l.length c) :
  ∃ s:ByteArray,(convert src dst xv).run P w=.ok (.string s) w/\strOf s=l:=by
 subst ex
 cases ya with
 | none =>
  have:=h0 rfl
  subst this
  exact⟨_,run_convert_bytes_nil w src e hs he _ _ dst hd,rfl⟩
 | some p =>
  let bs:List UInt8:=l.map fun y=>UInt8.ofNat y.toNat
  have hbs:∀ (j:Nat) (hj:j<bs.length),((bs[j].toNat:Nat):Int)=l[j]'(by simpa [bs] using hj):=fun j hj=>by
   have hj':j<l.length:=by simpa [bs] using hj
   obtain⟨b1,b2⟩:=hb l[j] (List.getElem_mem hj')
   have h1:IntKind.u8.min=0:=by decide
   have h2:IntKind.u8.max=255:=by decide
   rw[h1] at b1
   rw[h2] at b2
   simp only[bs,List.getElem_map,UInt8.toNat_ofNat']
   omega
  have:=run_convert_bytes_back (P:=P) w src dst e p c bs hs he hd (fun j hj=>by
   have hj':j<l.length:=by simpa [bs] using hj
   rw[hc p rfl j _ (List.getElem?_eq_getElem hj'),hbs j hj])
  refine⟨_,(by rw[show bs.length=l.length by simp [bs]] at this;exact this),?_⟩
  unfold strOf
  apply List.ext_getElem?
  intro i
  simp only[List.getElem?_map]
  by_cases hi:i<l.length
  ·have hi':i<bs.length:=by simpa [bs] using hi
   rw[List.getElem?_eq_getElem hi',List.getElem?_eq_getElem hi,Option.map_some,hbs i hi']
  ·rw[List.getElem?_eq_none (by simpa [bs] using hi),List.getElem?_eq_none (by omega)];rfl
theorem elem_u8{P:Program} {w:World} {O:Own} {M:Mp} {y:Int} {es:List Value} (r:RepC P (.int .u8) w O M y .o es):es=[.int .u8 y]/\IntKind.u8.min<=y/\y<=IntKind.u8.max:=r
theorem rep_bytes{P:Program} {w:World} {O:Own} {M:Mp} {s:ByteArray} {cap:Nat} {B:Nat} (hsz:s.size<=cap) (h63:s.size<=9223372036854775807)
  (hcell:∀ j v,(bytesRow s cap)[j]?=some v->w.cell? ⟨B,j,none⟩=some v) (hO:∀ o,¬ O B o) :
  RepV P (.sl (.int .u8)) w O M (strOf s) .o (.slice (some ⟨B,0,none⟩) s.size cap):=by
 refine(repV_of rfl).2 ⟨some (B,0),s.size,cap,.inl rfl,(strOf_length s).symm,⟨hsz,h63⟩,fun h=>(by cases h),fun p hp=>?_⟩
 cases hp
 intro i y hi
 obtain⟨b,h1,rfl⟩:=strOf_get hi
 refine⟨[.int .u8 b.toNat],rfl,fun j u hj=>?_,⟨rfl,(u8_in b).1,(u8_in b).2⟩⟩
 cases j with
 | succ j=>simp at hj
 | zero =>
  simp only[List.getElem?_cons_zero,Option.some.injEq] at hj
  subst hj
  refine⟨?_,hO _⟩
  have hi2:i<s.size:=by rw[← strOf_length];exact(List.getElem?_eq_some_iff.1 hi).1
  have hg:=hcell i (.int .u8 b.toNat) (by
   unfold bytesRow
   rw[Array.getElem?_append,if_pos (by rw[Array.size_map];exact hi2),Array.getElem?_map]
   have:s.data[i]?=some b:=by
    rw[getElem?_pos s i hi2] at h1
    rw[Array.getElem?_eq_getElem (show i<s.data.size from hi2)]
    exact h1
   rw[this];rfl)
  simpa [Ty.size] using hg
theorem cell_alloc_fr{w:World} {c:Array Value} {t:TypeId} {fr:Nat×Nat} {i:Nat}:(w.alloc (.cells c t fr)).cell? ⟨w.heap.size,i,none⟩=c[i]?:=by
 have:(w.alloc (.cells c t fr)).heap[w.heap.size]?=some (.cells c t fr):=by show(w.heap.push _)[_]?=_;simp
 simp only[World.cell?,this]
 rfl
theorem ok_convert{P:Program} {E:Env} (hE:EnvOk P E) {o:Oper} {m:Bool} {s d:TypeId} {x:Operand} (ho:o.op=.convert s d x):OpOk P E o m:=by
 intro w0 I nt U M st a w id h hd
 refine⟨false,fun ω _ p f hg hfr=>?_⟩
 simp only[evOp,ho] at hg
 obtain⟨u,_,hu,hg,_⟩:=goes_opd hg
 obtain⟨ru,su⟩:=opd_rep hE h hu
 split at hg
 ·rename_i hty
  replace hty:=of_decide_eq_true hty
  have hex:∀ v w',(convert s d (a.eval x)).run P w=.ok v w'->(execOp a.eval o).run P w=.ok (.value v) w':=fun v w' e=>by
   simp only[execOp,ho,Sem.run_bind,e,Result.andThen_ok,Sem.run_pure]
  unfold convV at hg
  split at hg
  ·
   rename_i k k' z sh hdt
   have hp:=goes_retV hg
   subst hp
   obtain⟨e1,_⟩:=rep_int ru
   obtain⟨ds,hds⟩:=und_some hE hty rfl
   have hdd:=chk_int (hE.ty _ _ hdt)
   refine op_ret h hd (hex (.int k (k.wrap z)) w ?_) (rep_int_mk (wrap_in _ _).1 (wrap_in _ _).2) trivial
   dsimp only at e1
   rw[e1]
   simp only[convert,Sem.run_bind,run_underlying hds,run_underlying hdd,Result.andThen_ok]
   cases ds<;>rfl
  ·
   rename_i z sh hdt
   have hp:=goes_retV hg
   subst hp
   have hdd:=chk_str (hE.ty _ _ hdt)
   have hss:=chk_str (hE.ty _ _ hty)
   refine op_ret h hd (hex (a.eval x) w ?_) ru trivial
   obtain⟨sv,e1,_⟩:=rep_str ru
   rw[e1]
   simp only[convert,Sem.run_bind,run_underlying hss,run_underlying hdd,Result.andThen_ok,Sem.run_pure]
  ·
   rename_i z b hdt
   obtain⟨c,_,hc,hg,_⟩:=goes_rdW hg
   split at hg
   ·rename_i l hl
    have hp:=goes_retV hg
    subst hp
    obtain⟨tc,vc,sc⟩:=c
    obtain⟨e2,rfl⟩:=castTo_eq hl
    dsimp only at e2
    subst e2
    obtain⟨pa,n,cp,e1,e2,e3,e4,e5⟩:=rep_sl ru
    dsimp only[SlSh] at e5
    replace e1:=e1.val rfl
    have hb:=(h.bx _ _ hc).1
    obtain⟨t0,a',n',c',k1,k2,k3,k4,k5⟩:=hb
    rw[e5] at k1
    cases k1
    obtain⟨et,hun,hec,hem⟩:=chk_sl (hE.ty _ _ hty)
    have hel:∀ p,pa=some p->∀ (i:Nat) (y:Int),vc[i]?=some y->(w.cell? ⟨p.1,p.2+i,none⟩=some (.int .u8 y)/\IntKind.u8.min<=y/\y<=IntKind.u8.max):=fun p hp i y hi=>by
     obtain⟨es,f1,f2,f3⟩:=(k5 p hp).2 i y hi
     obtain⟨rfl,f4,f5⟩:=elem_u8 f3
     have:=f2 0 _ rfl
     exact⟨by simpa [Ty.size] using this,f4,f5⟩
    obtain⟨sv,hr,hs⟩:=conv_bytes (P:=P) (w:=w) (src:=s) (dst:=d) hun (chk_int hec) (chk_str (hE.ty _ _ hdt)) (ya:=pa.map adr) (c:=cp) (l:=vc)
     (fun hp=>by have:=e4 (by simpa using hp);exact List.eq_nil_of_length_eq_zero (by omega))
     (fun y hy=>by
      obtain⟨i,hi⟩:=List.getElem?_of_mem hy
      cases hpa:pa with
      | none=>have:=e4 hpa;have:=(List.getElem?_eq_some_iff.1 hi).1;omega
      | some p=>exact(hel p hpa i y hi).2)
     (fun p hp i y hi=>by
      obtain⟨q,hq,rfl⟩:=Option.map_eq_some_iff.1 hp
      rw[show(adr q).add i=⟨q.1,q.2+i,none⟩ from adr_add _ _ _]
      exact(hel q hq i y hi).1) (xv:=a.eval x) (by rw[e1,k2])
    exact op_ret h hd (hex _ w hr) ⟨sv,rfl,hs,by show List.length vc<=_;omega⟩ trivial
   ·cases hg
  ·
   rename_i z sh hnm hdt
   have hp:=goes_retV hg
   subst hp
   obtain⟨pa,n,cp,e1,e2,e3,e4,e5⟩:=rep_sl ru
   dsimp only at e2 e5
   obtain⟨et,hun,hec,hem⟩:=chk_sl (hE.ty _ _ hty)
   have hE2:∀ p,pa=some p->Elems (fun y es=>RepC P (.int .u8) w (own st M) M y .o es) w (own st M) (Ty.int .u8).size p z:=by
    cases sh with
    | mref q=>exact(hnm q rfl).elim
    | nils=>dsimp only[SlSh] at e5;intro p hp;rw[e5] at hp;cases hp
    | tok q=>exact e5.1
    | _=>exact e5
   have hel:∀ p,pa=some p->∀ (i:Nat) (y:Int),z[i]?=some y->(w.cell? ⟨p.1,p.2+i,none⟩=some (.int .u8 y)/\IntKind.u8.min<=y/\y<=IntKind.u8.max):=fun p hp i y hi=>by
    obtain⟨es,f1,f2,f3⟩:=hE2 p hp i y hi
    obtain⟨rfl,f4,f5⟩:=elem_u8 f3
    have:=(f2 0 _ rfl).1
    exact⟨by simpa [Ty.size] using this,f4,f5⟩
   obtain⟨ux,e1',hya,hyn⟩:=e1.valApp
   obtain⟨sv,hr,hs⟩:=conv_bytes (P:=P) (w:=w) (src:=s) (dst:=d) hun (chk_int hec) (chk_str (hE.ty _ _ hdt)) (ya:=ux) (c:=cp) (l:=z)
    (fun hp=>by have:=e4 (hyn hp);exact List.eq_nil_of_length_eq_zero (by omega))
    (fun y hy=>by
     obtain⟨i,hi⟩:=List.getElem?_of_mem hy
     cases hpa:pa with
     | none=>have:=e4 hpa;have:=(List.getElem?_eq_some_iff.1 hi).1;omega
     | some p=>exact(hel p hpa i y hi).2)
    (fun p hp i y hi=>by
     rcases hya p hp with h0 | ⟨q,hq,rfl⟩
     ·have:=e3.1
      have:=(List.getElem?_eq_some_iff.1 hi).1
      omega
     ·rw[show(adr q).add i=⟨q.1,q.2+i,none⟩ from adr_add _ _ _]
      exact(hel q hq i y hi).1) (xv:=a.eval x) (by rw[e1',e2])
   exact op_ret h hd (hex _ w hr) ⟨sv,rfl,hs,by show List.length z<=_;omega⟩ trivial
  ·
   rename_i z sh hdt
   have hp:=goes_retV hg
   subst hp
   obtain⟨sv,e1,e2,e3⟩:=rep_str ru
   dsimp only at e1 e2 e3
   subst e2
   obtain⟨et,hun,hec,hem⟩:=chk_sl (hE.ty _ _ hdt)
   have hrun:=run_bytes_of_string (P:=P) w s d et sv (chk_str (hE.ty _ _ hty)) hun (chk_int hec)
   rw[strOf_length] at e3
   have hkeep:Keeps noOwn w (w.drew.alloc (.cells (bytesRow sv (grownCap w sv.size 0 et)) et ((bytesRow sv (grownCap w sv.size 0 et)).size,(bytesRow sv (grownCap w sv.size 0 et)).size+1))) :=
    (Keeps.drewN w _).trans (Keeps.alloc w.drew _) (fun _ _ _ h=>h)
   refine StepOk.value (hex _ _ (by rw[e1];exact hrun)) ⟨M,Agree.refl _ _,h.valueX hd (fun k hk=>.inl hk) hkeep fun u hu=>?_⟩
   cases hu
   refine⟨rep_bytes (grownCap_ge w sv.size 0 et) e3 (fun j v hj=>?_) (fun o ho=>?_),trivial⟩
   ·have:(w.drew.alloc (.cells (bytesRow sv (grownCap w sv.size 0 et)) et ((bytesRow sv (grownCap w sv.size 0 et)).size,(bytesRow sv (grownCap w sv.size 0 et)).size+1))).cell? ⟨w.drew.heap.size,j,none⟩=(bytesRow sv (grownCap w sv.size 0 et))[j]?:=by
     exact cell_alloc_fr
    exact this.trans hj
   ·have:=h.own_lt ho
    omega
  ·cases hg
 ·cases hg
end Go.VX
/- VX, part 23: lengths, least and greatest. -/
set_option linter.unusedVariables false
set_option linter.unusedSimpArgs false
namespace Go.VX
theorem goes_opdL{P:Program} {E:Env} (hE:EnvOk P E) {w0:World} {I:Own} {nt:Nat} {U:Nat->Prop} {M:Mp} {st:St} {a:Act} {w:World} (h:Rel P w0 I nt U M st a w) {ω:Bool} :
  ∀ (xs:List (Operand×Option Ty)) (k:List Vl->RM) (p:Patch) (f:List Loc),Goes st ω (opdL E xs k) p f ->
   ∃ vs f',List.length vs=xs.length/\(∀ (i:Nat) v,vs[i]?=some v->∃ x t,xs[i]?=some (x,t)/\Opd st E x t v/\RepV P v.ty w (own st M) M v.val v.sh (a.eval x)/\ShIn U v.sh)/\Goes st ω (k vs) p f'/\(∀ l∈f',l∈f)
 | [],k,p,f,g=>⟨[],f,rfl,fun i v h=>by simp at h,g,fun _ h=>h⟩
 | (x,t)::xs,k,p,f,g=>by
  simp only[opdL] at g
  obtain⟨v,f1,hv,g,h1⟩:=goes_opd g
  obtain⟨rv,sv⟩:=opd_rep hE h hv
  obtain⟨vs,f2,l2,h2,g,h3⟩:=goes_opdL hE h xs _ p f1 g
  refine⟨v::vs,f2,by simp [l2],fun i u hu=>?_,g,fun l hl=>h1 l (h3 l hl)⟩
  cases i with
  | zero=>simp only[List.getElem?_cons_zero,Option.some.injEq] at hu;subst hu;exact⟨x,t,rfl,hv,rv,sv⟩
  | succ i=>simpa using h2 i u (by simpa using hu)
theorem exec_builtin{P:Program} {o:Oper} {a:Act} {w w':World} {c:Call} {b:Builtin} {v:Value} (ho:o.op=.call c) (hc:c.callee=.builtin b)
  (hr:∀ cs,(builtin b c.argTypes o.type cs (c.args.map a.eval)).run P w=.ok (.value v) w'):(execOp a.eval o).run P w=.ok (.value v) w':=by
 simp only[execOp,ho,resolve,hc,Sem.run_bind,Sem.run_pure,Result.andThen_ok,invoke,hr]
theorem run_getMap{P:Program} {w:World} {r:Nat} {es:Array MapEntry} {clock:Nat} (hb:w.heap[r]?=some (.map es clock)):(getObj r).run P w=.ok (.map es clock) w:=by
 simp [getObj,Sem.run,hb]
theorem run_getIter{P:Program} {w:World} {r:Nat} {s:ByteArray} {n:Nat} (hb:w.heap[r]?=some (.stringIter s n)):(getObj r).run P w=.ok (.stringIter s n) w:=by
 simp [getObj,Sem.run,hb]
theorem chk_mh{P:Program} {i:TypeId} (h:(chk P .mh).ty i=true):∃ k e,P.underlying i=some (.map k e):=by
 simp only[chk,Bool.and_eq_true] at h
 obtain⟨_,h⟩:=h
 split at h
 ·exact⟨_,_,by assumption⟩
 ·cases h
theorem rep_mh{P:Program} {w:World} {O:Own} {M:Mp} {x:Ty.mh.D} {h:Sh} {v:Value} (r:RepV P .mh w O M x h v):∃ p,v=.map p/\MapSh M h p:=by
 have:RepC P .mh w O M x h [v]:=r
 obtain⟨p,h1,h2⟩:=this
 exact⟨p,by simpa using h1,h2⟩
theorem natI_some{n:Nat} {i:Int} (h:natI n=some i):i=n/\n<=9223372036854775807:=by
 unfold natI at h
 split at h
 ·rename_i hn;cases h;exact⟨rfl,Nat.le_of_ble_eq_true hn⟩
 ·cases h
theorem ok_len{P:Program} {E:Env} (hE:EnvOk P E) {o:Oper} {m:Bool} {c:Call} (ho:o.op=.call c) (hc:c.callee=.builtin .len):OpOk P E o m:=by
 intro w0 I nt U M st a w id h hd
 refine⟨false,fun ω _ p f hg hfr=>?_⟩
 simp only[evOp,ho,hc,evBuiltin] at hg
 split at hg
 ·rename_i x hargs
  split at hg
  ·rename_i t htys
   obtain⟨v,_,hv,hg,_⟩:=goes_opd hg
   obtain⟨rv,sv⟩:=opd_rep hE h hv
   have ha:(c.args.map a.eval)[0]?=some (a.eval x):=by
    have:c.args=#[x]:=Array.toList_inj.1 hargs
    rw[this];simp
   have ht:c.argTypes[0]?=some t:=by
    have:c.argTypes=#[t]:=Array.toList_inj.1 htys
    rw[this];rfl
   split at hg
   ·rename_i hty
    replace hty:=of_decide_eq_true hty
    have hex:∀ n:Nat,(Builtin.len_ c.argTypes o.type (c.args.map a.eval)).run P w=.ok (goInt n) w->(execOp a.eval o).run P w=.ok (.value (goInt n)) w:=fun n e =>
     exec_builtin ho hc (fun _=>by simp only[builtin,Sem.run_bind,e,Result.andThen_ok,Sem.run_pure])
    have hin:∀ n:Nat,n<=9223372036854775807->IntKind.i64.min<=(n:Int)/\(n:Int)<=IntKind.i64.max:=fun n hn=>by
     have h1:IntKind.i64.min=-9223372036854775808:=by decide
     have h2:IntKind.i64.max=9223372036854775807:=by decide
     rw[h1,h2]
     omega
    split at hg
    ·have hp:=goes_retV hg
     subst hp
     obtain⟨s,e1,e2,e3⟩:=rep_str rv
     dsimp only at e1 e2 e3
     subst e2
     rw[strOf_length] at e3
     refine op_ret h hd (v':=goInt s.size) (hex _ ?_) ?_ trivial
     ·unfold Builtin.len_
      rw[ha,ht,e1]
      simp only[Sem.run_bind,run_underlying (chk_str (hE.ty _ _ hty)),Result.andThen_ok,Sem.run_pure]
     ·rw[strOf_length]
      exact rep_int_mk (hin _ e3).1 (hin _ e3).2
    ·have hp:=goes_retV hg
     subst hp
     obtain⟨pa,n,cp,e1,e2,e3,e4,e5⟩:=rep_sl rv
     dsimp only at e2
     obtain⟨ua,e1,_⟩:=e1.valAny
     obtain⟨et,hun,_⟩:=chk_sl (hE.ty _ _ hty)
     refine op_ret h hd (v':=goInt n) (hex _ ?_) ?_ trivial
     ·unfold Builtin.len_
      rw[ha,ht,e1]
      simp only[Sem.run_bind,run_underlying hun,Result.andThen_ok,Sem.run_pure]
     ·rw[← e2]
      exact rep_int_mk (hin _ e3.2).1 (hin _ e3.2).2
    ·rename_i b
     obtain⟨cv,_,hcv,hg,_⟩:=goes_rdW hg
     obtain⟨pm,e1,e2⟩:=rep_mh rv
     dsimp only[MapSh] at e2
     obtain⟨kt,et,hun⟩:=chk_mh (hE.ty _ _ hty)
     have hb:=(h.bx _ _ hcv).1
     have run:∀ (es:Array MapEntry) (clock:Nat),w.heap[(M.box b).1]?=some (.map es clock)->(Builtin.len_ c.argTypes o.type (c.args.map a.eval)).run P w=.ok (goInt es.size) w:=fun es clock hes=>by
      unfold Builtin.len_
      rw[ha,ht,e1,e2]
      simp only[Sem.run_bind,run_underlying hun,Result.andThen_ok,run_getMap hes,Sem.run_pure]
     split at hg
     ·obtain⟨n,hn,hg⟩:=goes_eff hg
      obtain⟨hn1,hn2⟩:=natI_some hn
      have hp:=goes_retV hg
      subst hp
      obtain⟨_,_,es,h1,h2,_⟩:=hb
      refine op_ret h hd (v':=goInt es.size) (hex _ (run _ _ h1)) ?_ trivial
      rw[hn1,h2]
      exact rep_int_mk (hin _ hn2).1 (hin _ hn2).2
     ·obtain⟨n,hn,hg⟩:=goes_eff hg
      obtain⟨hn1,hn2⟩:=natI_some hn
      have hp:=goes_retV hg
      subst hp
      obtain⟨es,clock,h1,h2⟩:=hb
      refine op_ret h hd (v':=goInt es.size) (hex _ (run _ _ h1)) ?_ trivial
      rw[hn1,h2,Int.toNat_natCast]
      rw[h2,Int.toNat_natCast] at hn2
      exact rep_int_mk (hin _ hn2).1 (hin _ hn2).2
     ·cases hg
    ·cases hg
   ·cases hg
  ·cases hg
 ·cases hg
theorem intsOf_ok{k:IntKind}:∀ (vs:List Vl) (l:List Int),intsOf k vs=some l->l.length=vs.length/\∀ (i:Nat) y,l[i]?=some y->∃ s,vs[i]?=some ⟨.int k,y,s⟩
 | [],l,h=>by simp only[intsOf,Option.some.injEq] at h;subst h;exact⟨rfl,fun i y h=>by simp at h⟩
 | v::vs,l,h=>by
  obtain⟨t,x,s⟩:=v
  cases t<;>simp only[intsOf] at h<;>try cases h
  split at h
  ·rename_i l' hk hl
   cases h
   have hk:=of_decide_eq_true hk
   subst hk
   obtain⟨h1,h2⟩:=intsOf_ok vs l' hl
   refine⟨by simp [h1],fun i y hy=>?_⟩
   cases i with
   | zero=>simp only[List.getElem?_cons_zero,Option.some.injEq] at hy;subst hy;exact⟨s,rfl⟩
   | succ i=>simpa using h2 i y (by simpa using hy)
  ·cases h
theorem foldlM_min{P:Program} {w:World} {k:IntKind}:∀ (l:List Int) (x:Int),((l.map (Value.int k)).foldlM Builtin.min2 (.int k x)).run P w=.ok (.int k (minL x l)) w
 | [],x=>rfl
 | y::l,x=>by
  simp only[List.map_cons,List.foldlM_cons,Sem.run_bind,Builtin.min2,Sem.run_pure,Result.andThen_ok,minL]
  exact foldlM_min l _
theorem foldlM_max{P:Program} {w:World} {k:IntKind}:∀ (l:List Int) (x:Int),((l.map (Value.int k)).foldlM Builtin.max2 (.int k x)).run P w=.ok (.int k (maxL x l)) w
 | [],x=>rfl
 | y::l,x=>by
  simp only[List.map_cons,List.foldlM_cons,Sem.run_bind,Builtin.max2,Sem.run_pure,Result.andThen_ok,maxL]
  exact foldlM_max l _
theorem minL_in{k:IntKind}:∀ (l:List Int) (x:Int),(k.min<=x/\x<=k.max)->(∀ y∈l,k.min<=y/\y<=k.max)->k.min<=minL x l/\minL x l<=k.max
 | [],x,h,_=>h
 | y::l,x,h,hl=>minL_in l _ (by split<;>first | exact hl y (by simp) | exact h) (fun z hz=>hl z (by simp [hz]))
theorem maxL_in{k:IntKind}:∀ (l:List Int) (x:Int),(k.min<=x/\x<=k.max)->(∀ y∈l,k.min<=y/\y<=k.max)->k.min<=maxL x l/\maxL x l<=k.max
 | [],x,h,_=>h
 | y::l,x,h,hl=>maxL_in l _ (by split<;>first | exact hl y (by simp) | exact h) (fun z hz=>hl z (by simp [hz]))
theorem ints_args{P:Program} {E:Env} {st:St} {U:Nat->Prop} {M:Mp} {w:World} {a:Act} {xs:List Operand} {k:IntKind} {x:Int} {s:Sh} {r:List Vl} {l:List Int}
  (hl:(⟨.int k,x,s⟩::r:List Vl).length=(xs.map (·,(none:Option Ty))).length)
  (hv:∀ (i:Nat) v,(⟨.int k,x,s⟩::r:List Vl)[i]?=some v->∃ y t,(xs.map (·,(none:Option Ty)))[i]?=some (y,t)/\Opd st E y t v/\RepV P v.ty w (own st M) M v.val v.sh (a.eval y)/\ShIn U v.sh) (hr:intsOf k r=some l) :
  xs.map a.eval=Value.int k x::l.map (Value.int k)/\(k.min<=x/\x<=k.max)/\∀ y∈l,k.min<=y/\y<=k.max:=by
 obtain⟨l1,l2⟩:=intsOf_ok r l hr
 have h0:∀ (i:Nat) y,(x::l)[i]?=some y->∃ z,xs[i]?=some z/\a.eval z=.int k y/\k.min<=y/\y<=k.max:=fun i y hy=>by
  have:∃ s',(⟨.int k,x,s⟩::r:List Vl)[i]?=some ⟨.int k,y,s'⟩:=by
   cases i with
   | zero=>simp only[List.getElem?_cons_zero,Option.some.injEq] at hy;subst hy;exact⟨s,rfl⟩
   | succ i=>simpa using l2 i y (by simpa using hy)
  obtain⟨s',hs'⟩:=this
  obtain⟨z,t,h1,_,h2,_⟩:=hv i _ hs'
  obtain⟨e,h3⟩:=rep_int h2
  rw[List.getElem?_map,Option.map_eq_some_iff] at h1
  obtain⟨z',h4,h5⟩:=h1
  cases h5
  exact⟨_,h4,e,h3⟩
 refine⟨?_,?_,fun y hy=>?_⟩
 ·rw[show Value.int k x::l.map (Value.int k)=(x::l).map (Value.int k) from rfl]
  apply List.ext_getElem?
  intro i
  rw[List.getElem?_map,List.getElem?_map]
  by_cases hi:i<(x::l).length
  ·obtain⟨z,h1,h2,_⟩:=h0 i _ (List.getElem?_eq_getElem hi)
   rw[h1,List.getElem?_eq_getElem hi]
   exact congrArg some h2
  ·have:xs.length<=i:=by simp at hl hi;omega
   rw[List.getElem?_eq_none this,List.getElem?_eq_none (by omega)]
   rfl
 ·obtain⟨_,_,_,h⟩:=h0 0 x rfl
  exact h
 ·obtain⟨i,hi⟩:=List.getElem?_of_mem hy
  obtain⟨_,_,_,h⟩:=h0 (i+1) y (by simpa using hi)
  exact h
theorem ok_min{P:Program} {E:Env} (hE:EnvOk P E) {o:Oper} {m:Bool} {c:Call} (ho:o.op=.call c) (hc:c.callee=.builtin .min):OpOk P E o m:=by
 intro w0 I nt U M st a w id h hd
 refine⟨false,fun ω _ p f hg hfr=>?_⟩
 simp only[evOp,ho,hc,evBuiltin] at hg
 obtain⟨vs,_,hl,hv,hg,_⟩:=goes_opdL hE h _ _ _ _ hg
 split at hg
 ·rename_i k x s r
  split at hg
  ·rename_i l hr
   have hp:=goes_retV hg
   subst hp
   obtain⟨h1,h2,h3⟩:=ints_args hl hv hr
   refine op_ret h hd (v':=.int k (minL x l)) (exec_builtin ho hc fun _=>?_) (rep_int_mk (minL_in l x h2 h3).1 (minL_in l x h2 h3).2) trivial
   have he:(Builtin.min_ c.argTypes o.type (c.args.map a.eval)).run P w=.ok (.int k (minL x l)) w:=by
    unfold Builtin.min_
    rw[Array.toList_map,h1]
    exact foldlM_min l x
   simp only[builtin,Sem.run_bind,he,Result.andThen_ok,Sem.run_pure]
  ·cases hg
 ·cases hg
theorem ok_max{P:Program} {E:Env} (hE:EnvOk P E) {o:Oper} {m:Bool} {c:Call} (ho:o.op=.call c) (hc:c.callee=.builtin .max):OpOk P E o m:=by
 intro w0 I nt U M st a w id h hd
 refine⟨false,fun ω _ p f hg hfr=>?_⟩
 simp only[evOp,ho,hc,evBuiltin] at hg
 obtain⟨vs,_,hl,hv,hg,_⟩:=goes_opdL hE h _ _ _ _ hg
 split at hg
 ·rename_i k x s r
  split at hg
  ·rename_i l hr
   have hp:=goes_retV hg
   subst hp
   obtain⟨h1,h2,h3⟩:=ints_args hl hv hr
   refine op_ret h hd (v':=.int k (maxL x l)) (exec_builtin ho hc fun _=>?_) (rep_int_mk (maxL_in l x h2 h3).1 (maxL_in l x h2 h3).2) trivial
   have he:(Builtin.max_ c.argTypes o.type (c.args.map a.eval)).run P w=.ok (.int k (maxL x l)) w:=by
    unfold Builtin.max_
    rw[Array.toList_map,h1]
    exact foldlM_max l x
   simp only[builtin,Sem.run_bind,he,Result.andThen_ok,Sem.run_pure]
  ·cases hg
 ·cases hg
end Go.VX
/- VX, part 24: 'append': what it does to memory. -/
set_option linter.unusedVariables false
set_option linter.unusedSimpArgs false
namespace Go.VX
structure AppSt (st1 st':St) (dst:Option Nat) (pv:Option Vl) (K N:Loc) (nb:Bx):Prop where
 sl:∀ n,look st'.sl n=if dst=some n then some pv else look st1.sl n
 bx:∀ n,look st'.bx n=if N=.b n then some nb else if K=.b n then some .dead else look st1.bx n
 tk:∀ n,look st'.tk n=if N=.t n then some true else if K=.t n then some false else look st1.tk n
def inN(M:Mp) (e:Ty):Loc->Nat->Nat->Prop
 | .t k=>inTok M k
 | .b k=>inBox M k (.ms e)
 | .s _=>fun _ _=>False
def shN:Loc->Sh
 | .t k=>.tok k
 | .b k=>.mref k
 | .s _=>.o
def numN:Loc->Nat
 | .t k=>k
 | .b k=>k
 | .s k=>k
theorem Rel.app{P:Program} {w0:World} {I:Own} {nt:Nat} {U U':Nat->Prop} {M M':Mp} {st1 st':St} {a:Act} {w w':World} (h:Rel P w0 I nt U M st1 a w) {dst:Option Tmp} (hd:∀ d,dst=some d->d<nt)
  {K N:Loc} {e:Ty} (het:e.tup=false) {r:List e.D} {W:Own} {pa:Option (Nat×Nat)} {c:Nat} (hs:AppSt st1 st' dst (some ⟨.sl e,r,shN N⟩) K N (.rw ⟨.ms e,r,.o⟩))
  (hNs:∀ n,N≠.s n) (hNU:¬ U (numN N)) (hU:∀ k,U k->U' k) (hU':U' (numN N)) (hA:Agree U M M') (hk:Keeps W w w') (hWK:∀ b o,W b o->reg st1 M K b o) (hK0:K≠.s 0)
  (hc:LeC r.length c) (hn:pa=none->c=0)
  (hMt:∀ k,N=.t k->M'.tok k=(pa,r.length,c,e.size)) (hMb:∀ k,N=.b k->M'.row k=(pa,r.length,c)/\∀ p,pa=some p->M'.box k=p)
  (hel:∀ p,pa=some p->∀ i y,r[i]?=some y->∃ es:List Value,es.length=e.size/\(∀ j u,es[j]?=some u->w'.cell? ⟨p.1,p.2+i*e.size+j,none⟩=some u)/\RepC P e w (own st1 M) M y .o es)
  (hreg:∀ b o,inN M' e N b o->reg st1 M K b o\/(w.heap.size<=b/\(w'.cell? ⟨b,o,none⟩).isSome=true/\Clean w' b))
  (hnot:∀ p i j,pa=some p->i<r.length->j<e.size->∀ l,l≠K->¬ reg st1 M l p.1 (p.2+i*e.size+j)) :
  Rel P w0 I nt U' M' st' (a.put dst (.slice (pa.map adr) r.length c)) w':=by
 have hregO:∀ l b o,reg st' M' l b o->(l=N/\inN M' e N b o)\/(l≠N/\l≠K/\reg st1 M l b o):=by
  intro l b o hl
  by_cases hlN:l=N
  ·left
   refine⟨hlN,?_⟩
   subst hlN
   cases l with
   | s n=>exact(hNs n rfl).elim
   | b k =>
    obtain⟨v,h1,h2⟩:=hl
    rw[hs.bx,if_pos rfl] at h1
    cases h1
    exact h2
   | t k=>exact hl.2
  ·right
   have hlK:l≠K:=by
    intro e'
    subst e'
    cases l with
    | s n =>
     cases n with
     | zero=>exact hK0 rfl
     | succ n=>exact hl.elim
    | b k =>
     obtain⟨v,h1,h2⟩:=hl
     rw[hs.bx,if_neg (fun e=>hlN e.symm),if_pos rfl] at h1
     cases h1
    | t k =>
     have h1:=hl.1
     rw[hs.tk,if_neg (fun e=>hlN e.symm),if_pos rfl] at h1
     cases h1
   refine⟨hlN,hlK,reg_old (st':=st') h hA (fun k v e hv=>?_) (fun k e hv=>?_) hl⟩
   ·subst e
    rwa [hs.bx,if_neg (fun e=>hlN e.symm),if_neg (fun e=>hlK e.symm)] at hv
   ·subst e
    rwa [hs.tk,if_neg (fun e=>hlN e.symm),if_neg (fun e=>hlK e.symm)] at hv
 have hx:Ext (own st1 M) w w':=hk.ext.mono fun b o _ hw=>⟨K,hWK b o hw⟩
 have hown:∀ b o,b<w.heap.size->own st' M' b o->own st1 M b o:=by
  rintro b o hb ⟨l,hl⟩
  rcases hregO l b o hl with⟨_,h1⟩ | ⟨_,_,h1⟩
  ·rcases hreg b o h1 with h2 | ⟨h2,_⟩
   ·exact⟨K,h2⟩
   ·omega
  ·exact⟨l,h1⟩
 refine h.step hd (W:=W) (fun l=>if l=K then N else l) N hU hA hk (fun b o hw=>⟨K,hK0,hWK b o hw⟩) hs.sl (fun x hx'=>?_) (fun l b o hl=>?_) (fun id v hv=>?_) (fun id z v hv=>?_) (fun k hk'=>?_) (fun k v hk' hv'=>by
  rw[hs.bx] at hk'
  split at hk'
  ·cases hk';cases hv'
  ·split at hk'
   ·cases hk'
   ·exact hk') (if_neg (fun e=>hK0 e.symm))
 ·cases hx'
  refine⟨?_,?_⟩
  ·refine(repV_of rfl).2 ⟨pa,r.length,c,.inl rfl,rfl,hc,hn,?_⟩
   cases N with
   | s n=>exact(hNs n rfl).elim
   | b k=>exact(hMb k rfl).1
   | t k =>
    refine⟨fun p hp i y hi=>?_,.inl (hMt k rfl)⟩
    obtain⟨es,k1,k2,k3⟩:=hel p hp i y hi
    have hi':i<r.length:=(List.getElem?_eq_some_iff.1 hi).1
    refine⟨es,k1,fun j u hj=>⟨k2 j u hj,?_⟩,k3.mono P _ hx hown trivial⟩
    have hj':j<e.size:=k1 ▸ (List.getElem?_eq_some_iff.1 hj).1
    rintro⟨l,hl⟩
    rcases hregO l _ _ hl with⟨_,h1⟩ | ⟨_,h1,h2⟩
    ·obtain⟨q,q1,q2,q3⟩:=h1
     rw[hMt k rfl] at q1 q2 q3
     dsimp only at q1 q2 q3
     rw[hp] at q1
     have q4:p.2=q:=congrArg Prod.snd (Option.some.inj q1)
     have:=mul_cell hi' hj'
     omega
    ·exact hnot p i j hp hi' hj' l h1 h2
  ·cases N with
   | s n=>exact(hNs n rfl).elim
   | b k=>exact hU'
   | t k=>exact hU'
 ·rcases hregO l b o hl with⟨h0,h1⟩ | ⟨_,h1,h2⟩
  ·subst h0
   rcases hreg b o h1 with h2 | ⟨h2,h3,h4⟩
   ·exact .inl ⟨K,h2,if_pos rfl⟩
   ·exact .inr ⟨h2,rfl,h3,h4⟩
  ·exact .inl ⟨l,h2,if_neg h1⟩
 ·rw[hs.bx] at hv
  split at hv
  ·rename_i hN
   cases hv
   right
   subst hN
   refine⟨⟨het,pa,r.length,c,(hMb id rfl).1,rfl,hc,hn,fun p hp=>⟨(hMb id rfl).2 p hp,fun i y hi=>?_⟩⟩,trivial,hU'⟩
   obtain⟨es,k1,k2,k3⟩:=hel p hp i y hi
   exact⟨es,k1,k2,k3.mono P _ hx hown trivial⟩
  ·split at hv
   ·cases hv
   ·rename_i _ hK
    refine .inl ⟨hv,fun b o hr hw=>hK (h.dis _ _ _ _ (hWK b o hw) hr)⟩
 ·rw[hs.bx] at hv
  split at hv
  ·cases hv
  ·split at hv
   ·cases hv
   ·exact .inl hv
 ·rw[hs.tk] at hk'
  split at hk'
  ·rename_i hN;subst hN;exact hU'
  ·split at hk'
   ·cases hk'
   ·exact hU _ (h.tk _ hk')
theorem adr_eq(p:Nat×Nat) (j:Nat):(adr p).add j=⟨p.1,p.2+j,none⟩:=adr_add _ _ _
theorem run_append{P:Program} {t ty et:TypeId} (hun:P.underlying t=some (.slice et)) {e:Ty} (hi:infoB P e et=true) {xi:TypeInfo} (hx:P.info? et=some xi) {w:World} {pa:Option (Nat×Nat)} {pb:Option Addr} {n c n2 c2:Nat}
  (hc:n<=c) (hc2:n2<=c2) (ha:pa=none->c=0) (hb:pb=none->c2=0) (hlim:(n+n2)*xi.bytes<=140737488355328) (h63:n+n2<=9223372036854775807)
  {olds news:List Value} (hol:olds.length=n*e.size) (hnl:news.length=n2*e.size)
  (hoc:∀ p,pa=some p->∀ j u,olds[j]?=some u->w.cell? ⟨p.1,p.2+j,none⟩=some u) (hnc:∀ p,pb=some p->∀ j u,news[j]?=some u->w.cell? (p.add j)=some u)
  (h1:∀ u∈news,u.oneCell'=true) (hsp:∀ p,pa=some p->∀ j,j<c*e.size-n*e.size->(w.cell? ⟨p.1,p.2+n*e.size+j,none⟩).isSome=true/\w.frozen? ⟨p.1,p.2+n*e.size+j,none⟩=false) :
  (n+n2<=c/\(Builtin.append_ #[t,t] ty #[.slice (pa.map adr) n c,.slice pb n2 c2]).run P w=.ok (.slice (pa.map adr) (n+n2) c) (match pa with | some p=>w.setCells p.1 (p.2+n*e.size) news | none=>w)) \/
  (∃ cap zs,n+n2<=cap/\(Builtin.append_ #[t,t] ty #[.slice (pa.map adr) n c,.slice pb n2 c2]).run P w=.ok (.slice (some ⟨w.heap.size,0,none⟩) (n+n2) cap) (w.drew.alloc (.cells (olds++news++zs).toArray et)) /\
   (olds++news++zs:List Value).length=cap*e.size):=by
 obtain⟨hm,x,d,hx',hdd,hs,hag,hz⟩:=infoB_spec hi
 rw[hx] at hx'
 cases hx'
 have hz':xi.zero=some (valOf e.agg (zc e)):=by rw[hz];cases e.agg<;>rfl
 have hzc:(valOf e.agg (zc e)).cells=(zc e).toArray:=valOf_cells ((zero_rep P e hm w noOwn default).one e (memTup hm).1) (fun h=>by rw[zc_length e hm];exact size_one h)
 have hzl:=zc_length e hm
 by_cases hroom:n+n2<=c
 ·left
  refine⟨hroom,?_⟩
  cases pa with
  | none =>
   have hc0:=ha rfl
   have hn0:n=0:=by omega
   have hn20:n2=0:=by omega
   subst hc0 hn0 hn20
   cases pb with
   | none=>simp [Builtin.append_,run_underlying hun,sizeOf,typeInfo,hx,Builtin.lenOf,run_firstCells_none]
   | some q =>
    have hf:=run_firstCells_some (P:=P) w xi.size 0 q 0 c2 [] (by simp) (by simp)
    simp [Builtin.append_,run_underlying hun,sizeOf,typeInfo,hx,Builtin.lenOf,hf]
  | some p =>
   cases pb with
   | none =>
    have hc0:=hb rfl
    have hn20:n2=0:=by omega
    subst hc0 hn20
    have:news=[]:=List.eq_nil_of_length_eq_zero (by rw[hnl,Nat.zero_mul])
    subst this
    have hroom':n<=c:=hc
    simp [Builtin.append_,run_underlying hun,sizeOf,typeInfo,hx,Builtin.lenOf,run_firstCells_none,hroom',storeCells,World.setCells]
   | some q =>
    have hfit:(n+n2)*e.size<=c*e.size:=Nat.mul_le_mul_right _ hroom
    rw[Nat.add_mul] at hfit
    have:=run_append_room_cells (P:=P) w t ty et xi hun hx p.1 p.2 n c q n2 c2 news (by rw[hs];exact hnl) (fun j u hj=>hnc q rfl j u hj) h1 hroom
     (fun j hj=>by rw[hs];exact(hsp p rfl j (by omega)).1) (fun j hj=>by rw[hs];exact(hsp p rfl j (by omega)).2)
    rw[hs] at this
    exact this
 ·right
  have hq:∃ q,pb=some q:=by
   cases pb with
   | none=>have:=hb rfl;omega
   | some q=>exact⟨q,rfl⟩
  obtain⟨q,rfl⟩:=hq
  have hcap:=grownCap_ge w (n+n2) c et
  have hzcl:∀ k,(Builtin.zeroCells (valOf e.agg (zc e)).cells k).toList.length=k*e.size:=fun k=>by
   rw[hzc]
   simp [Builtin.zeroCells,hzl]
  cases pa with
  | none =>
   have hc0:=ha rfl
   have hn0:n=0:=by omega
   subst hc0 hn0
   have:olds=[]:=List.eq_nil_of_length_eq_zero (by rw[hol,Nat.zero_mul])
   subst this
   rw[Nat.zero_add] at hroom hlim h63 hcap ⊢
   have hr:=run_append_nil (P:=P) w t ty et xi _ hun hx hz' q n2 c2 news (by rw[hs];exact hnl) (fun j u hj=>hnc q rfl j u hj) (by omega) (by omega) (by omega)
   refine⟨grownCap w n2 0 et,(Builtin.zeroCells (valOf e.agg (zc e)).cells (grownCap w n2 0 et-n2)).toList,hcap,?_,?_⟩
   ·refine Eq.trans hr ?_
    congr 3
    apply Array.toList_inj.1
    simp
   ·rw[List.nil_append,List.length_append,hnl,hzcl,← Nat.add_mul]
    congr 1
    omega
  | some p =>
   have hr:=run_append_grow (P:=P) w t ty et xi _ hun hx hz' (adr p) n c olds (by rw[hs];exact hol) (fun j u hj=>by rw[adr_eq];exact hoc p rfl j u hj) q n2 c2 news (by rw[hs];exact hnl)
    (fun j u hj=>hnc q rfl j u hj) (by omega) (by omega) (growslice_fits (by omega) hlim)
   refine⟨grownCap w (n+n2) c et,(Builtin.zeroCells (valOf e.agg (zc e)).cells (grownCap w (n+n2) c et-(n+n2))).toList,hcap,?_,?_⟩
   ·refine Eq.trans hr ?_
    congr 3
    apply Array.toList_inj.1
    simp
   ·rw[List.length_append,List.length_append,hol,hnl,hzcl,← Nat.add_mul,← Nat.add_mul]
    congr 1
    omega
end Go.VX
/- VX, part 25: 'append', the operation. -/
set_option linter.unusedVariables false
set_option linter.unusedSimpArgs false
namespace Go.VX
theorem gather{α:Type} {sz:Nat}:∀ (l:List α) (Q:Nat->List Value->Prop) (R:α->List Value->Prop),(∀ i y,l[i]?=some y->∃ es:List Value,es.length=sz/\Q i es/\R y es) ->
  ∃ cs:List Value,cs.length=l.length*sz/\∀ i y,l[i]?=some y->Q i ((cs.drop (i*sz)).take sz)/\R y ((cs.drop (i*sz)).take sz)
 | [],Q,R,h=>⟨[],by simp,fun i y hy=>by simp at hy⟩
 | x::l,Q,R,h=>by
  obtain⟨es,e1,e2,e3⟩:=h 0 x rfl
  obtain⟨cs,c1,c2⟩:=gather l (fun i=>Q (i+1)) R (fun i y hy=>h (i+1) y (by simpa using hy))
  refine⟨es++cs,by rw[List.length_append,e1,c1,List.length_cons,Nat.succ_mul];omega,fun i y hy=>?_⟩
  cases i with
  | zero =>
   simp only[List.getElem?_cons_zero,Option.some.injEq] at hy
   subst hy
   rw[Nat.zero_mul,List.drop_zero,← e1,List.take_left]
   exact⟨e2,e3⟩
  | succ i =>
   have:=c2 i y (by simpa using hy)
   have e4:(es++cs).drop ((i+1)*sz)=cs.drop (i*sz):=by
    rw[Nat.succ_mul,Nat.add_comm,← e1,List.drop_append,List.drop_of_length_le (by omega)]
    simp
   rw[e4]
   exact this
theorem chunks_cells{sz n:Nat} {cs:List Value} (hl:cs.length=n*sz) {C:Nat->Value->Prop} (h:∀ i,i<n->∀ k u,((cs.drop (i*sz)).take sz)[k]?=some u->C (i*sz+k) u):∀ (j:Nat) u,cs[j]?=some u->C j u:=by
 intro j u hj
 have hlt:=(List.getElem?_eq_some_iff.1 hj).1
 rw[hl] at hlt
 have hsz:0<sz:=by
  rcases Nat.eq_zero_or_pos sz with h0 | h0
  ·subst h0;simp at hlt
  ·exact h0
 have h1:j / sz<n:=(Nat.div_lt_iff_lt_mul hsz).2 hlt
 have h2:j / sz*sz+j % sz=j:=by rw[Nat.mul_comm];exact Nat.div_add_mod j sz
 have:=h (j / sz) h1 (j % sz) u (by
  rw[List.getElem?_take,if_pos (Nat.mod_lt _ hsz),List.getElem?_drop,h2]
  exact hj)
 rwa [h2] at this
theorem chunk_left{cs ds:List Value} {n sz i:Nat} (hl:cs.length=n*sz) (hi:i<n):((cs++ds).drop (i*sz)).take sz=(cs.drop (i*sz)).take sz:=by
 have:(i+1)*sz<=n*sz:=Nat.mul_le_mul_right _ hi
 rw[Nat.succ_mul] at this
 rw[List.drop_append_of_le_length (by omega),List.take_append_of_le_length (by rw[List.length_drop];omega)]
theorem chunk_right{cs ds:List Value} {n sz i:Nat} (hl:cs.length=n*sz):((cs++ds).drop ((n+i)*sz)).take sz=(ds.drop (i*sz)).take sz:=by
 rw[Nat.add_mul,← hl,← List.drop_drop,List.drop_left]
theorem app_core{P:Program} {w0:World} {I:Own} {nt:Nat} {U:Nat->Prop} {M:Mp} {st1 st':St} {a:Act} {w:World} (h:Rel P w0 I nt U M st1 a w) {o:Oper} (hd:∀ d,o.dst=some d->d<nt)
  {t ty et:TypeId} (hun:P.underlying t=some (.slice et)) {e:Ty} (hem:e.mem=true) (hi:infoB P e et=true) {xi:TypeInfo} (hx:P.info? et=some xi) {lim:Nat} (hb0:0<xi.bytes) (hlim:lim*xi.bytes<=140737488355328)
  {xv yv:Value} (hop:∀ v w',(Builtin.append_ #[t,t] o.type #[xv,yv]).run P w=.ok v w'->(execOp a.eval o).run P w=.ok (.value v) w')
  {pa:Option (Nat×Nat)} {n c:Nat} (ex:xv=.slice (pa.map adr) n c) {l0:List e.D} (hn:n=l0.length) (hc:LeC n c) (ha:pa=none->c=0)
  {K N:Loc} {id:Nat} (hN:N=.t id\/N=.b id) (hK0:K≠.s 0) (hid:¬ U id)
  (helx:∀ p,pa=some p->∀ i y,l0[i]?=some y->∃ es:List Value,es.length=e.size/\(∀ j u,es[j]?=some u->w.cell? ⟨p.1,p.2+i*e.size+j,none⟩=some u)/\RepC P e w (own st1 M) M y .o es)
  (hnotx:∀ p i j,pa=some p->i<n->j<e.size->∀ l,l≠K->¬ reg st1 M l p.1 (p.2+i*e.size+j))
  (hspare:∀ p,pa=some p->∀ o,p.2+n*e.size<=o->o<p.2+c*e.size->reg st1 M K p.1 o)
  (hfull:N=.b id->∀ p,pa=some p->∀ o,p.2<=o->o<p.2+c*e.size->reg st1 M K p.1 o)
  {l':List e.D} {su:Sh} (hsu:su.plain=true) (ry:RepV P (.sl e) w (own st1 M) M l' su yv) {r:List e.D} (hr:app lim l0 l'=some r)
  (hs:AppSt st1 st' o.dst (some ⟨.sl e,r,shN N⟩) K N (.rw ⟨.ms e,r,.o⟩)) :
  StepOk P o a w fun v w'=>∃ M',Agree U M M'/\Rel P w0 I nt (fun k=>U k\/(id<=k/\k<id+1)) M' st' (a.put o.dst v) w':=by
 unfold app at hr
 split at hr
 ·rename_i hle
  cases hr
  obtain⟨_,xi',_,hx',_,hs',_⟩:=infoB_spec hi
  rw[hx] at hx'
  cases hx'
  have hsz:xi.size=e.size:=hs'
  obtain⟨pb,n2,c2,ey,f2,f3,f4,f5⟩:=rep_sl ry
  have hEy:=slSh_plain f5 hsu
  subst ex hn
  obtain⟨yb,ey,hya,hyn⟩:=ey.valApp
  subst ey
  have hold:∃ olds:List Value,olds.length=l0.length*e.size/\(∀ p,pa=some p->∀ (j:Nat) u,olds[j]?=some u->w.cell? ⟨p.1,p.2+j,none⟩=some u) /\
    ∀ i y,l0[i]?=some y->RepC P e w (own st1 M) M y .o ((olds.drop (i*e.size)).take e.size):=by
   cases hpa:pa with
   | none =>
    have h0:=ha hpa
    have:l0=[]:=List.eq_nil_of_length_eq_zero (by omega)
    subst this
    exact⟨[],by simp,fun p hp=>(by cases hp),fun i y hy=>by simp at hy⟩
   | some p =>
    obtain⟨olds,o1,o2⟩:=gather l0 (fun i es=>∀ j u,es[j]?=some u->w.cell? ⟨p.1,p.2+i*e.size+j,none⟩=some u) (fun y es=>RepC P e w (own st1 M) M y .o es) (helx p hpa)
    refine⟨olds,o1,fun p' hp'=>?_,fun i y hy=>(o2 i y hy).2⟩
    cases hp'
    refine chunks_cells (C:=fun j u=>w.cell? ⟨p.1,p.2+j,none⟩=some u) o1 fun i hi k u hk=>?_
    rw[← Nat.add_assoc]
    exact(o2 i _ (List.getElem?_eq_getElem hi)).1 k u hk
  obtain⟨olds,o1,o2,o3⟩:=hold
  have hnew:∃ news:List Value,news.length=n2*e.size/\(∀ p,pb=some p->∀ (j:Nat) u,news[j]?=some u->w.cell? ⟨p.1,p.2+j,none⟩=some u) /\
    ∀ i y,l'[i]?=some y->RepC P e w (own st1 M) M y .o ((news.drop (i*e.size)).take e.size):=by
   cases hpb:pb with
   | none =>
    have h0:=f4 hpb
    have h1:l'=[]:=List.eq_nil_of_length_eq_zero (by omega)
    have h2:n2=0:=by omega
    subst h1 h2
    exact⟨[],by simp,fun p hp=>(by cases hp),fun i y hy=>by simp at hy⟩
   | some p =>
    obtain⟨news,o1,o2⟩:=gather (sz:=e.size) l' (fun i es=>∀ j u,es[j]?=some u->w.cell? ⟨p.1,p.2+i*e.size+j,none⟩=some u) (fun y es=>RepC P e w (own st1 M) M y .o es)
     (fun i y hy=>by obtain⟨es,k1,k2,k3⟩:=hEy p hpb i y hy;exact⟨es,k1,fun j u hj=>(k2 j u hj).1,k3⟩)
    refine⟨news,by rw[o1,f2],fun p' hp'=>?_,fun i y hy=>(o2 i y hy).2⟩
    cases hp'
    refine chunks_cells (C:=fun j u=>w.cell? ⟨p.1,p.2+j,none⟩=some u) o1 fun i hi k u hk=>?_
    rw[← Nat.add_assoc]
    exact(o2 i _ (List.getElem?_eq_getElem hi)).1 k u hk
  obtain⟨news,m1,m2,m3⟩:=hnew
  have m2':∀ p,yb=some p->∀ (j:Nat) u,news[j]?=some u->w.cell? (p.add j)=some u:=fun p hp j u hj=>by
   rcases hya p hp with h0 | ⟨q,hq,rfl⟩
   ·have:n2=0:=by have:=f3.1;omega
    subst this
    have:news=[]:=List.eq_nil_of_length_eq_zero (by rw[m1,Nat.zero_mul])
    subst this
    simp at hj
   ·rw[adr_eq];exact m2 q hq j u hj
  have hone:∀ u∈news,u.oneCell'=true:=by
   intro u hu
   obtain⟨j,hj⟩:=List.getElem?_of_mem hu
   refine chunks_cells (C:=fun _ u=>u.oneCell'=true) m1 (fun i hi k u hk=>?_) j u hj
   exact(m3 i _ (List.getElem?_eq_getElem (by omega))).one _ (memTup hem).1 u (List.mem_of_getElem? hk)
  have hlive:∀ p,pa=some p->∀ j,j<c*e.size-l0.length*e.size->(w.cell? ⟨p.1,p.2+l0.length*e.size+j,none⟩).isSome=true/\w.frozen? ⟨p.1,p.2+l0.length*e.size+j,none⟩=false:=fun p hp j hj=>by
   obtain⟨k1,k2,_⟩:=h.live _ _ ⟨K,hspare p hp (p.2+l0.length*e.size+j) (by omega) (by omega)⟩
   exact⟨k1,k2 _⟩
  have hbytes:(l0.length+n2)*xi.bytes<=140737488355328:=Nat.le_trans (Nat.mul_le_mul_right _ (by omega)) hlim
  have h63:l0.length+n2<=9223372036854775807:=by
   have:l0.length+n2<=(l0.length+n2)*xi.bytes:=Nat.le_mul_of_pos_right _ hb0
   omega
  have hrl:(l0++l').length=l0.length+n2:=by rw[List.length_append,f2]
  have hNs:∀ n,N≠.s n:=fun n e=>by rcases hN with h | h<;>rw[h] at e<;>cases e
  have hnum:numN N=id:=by rcases hN with h | h<;>rw[h]<;>rfl
  have hM:∀ (pa':Option (Nat×Nat)) (c':Nat),∃ M',Agree U M M'/\(∀ k,N=.t k->M'.tok k=(pa',(l0++l').length,c',e.size))/\(∀ k,N=.b k->M'.row k=(pa',(l0++l').length,c')/\∀ p,pa'=some p->M'.box k=p):=fun pa' c'=>by
   rcases hN with hN | hN
   ·refine⟨M.setTok id (pa',(l0++l').length,c',e.size),Mp.setTok_agree hid,fun k hk=>?_,fun k hk=>?_⟩
    ·rw[hN] at hk;cases hk;exact Mp.setTok_same
    ·rw[hN] at hk;cases hk
   ·refine⟨M.setRow id (pa',(l0++l').length,c'),Mp.setRow_agree hid,fun k hk=>?_,fun k hk=>?_⟩
    ·rw[hN] at hk;cases hk
    ·rw[hN] at hk;cases hk
     exact⟨Mp.setRow_same,fun p hp=>by rw[Mp.setRow_box,hp];rfl⟩
  have hin:∀ (M':Mp) (pa':Option (Nat×Nat)) (c':Nat),(∀ k,N=.t k->M'.tok k=(pa',(l0++l').length,c',e.size))->(∀ k,N=.b k->M'.row k=(pa',(l0++l').length,c')/\∀ p,pa'=some p->M'.box k=p) ->
    ∀ b o,inN M' e N b o->∃ p,pa'=some p/\b=p.1/\p.2<=o/\o<p.2+c'*e.size/\((∃ k,N=.t k)->p.2+(l0.length+n2)*e.size<=o):=fun M' pa' c' h1 h2 b o ho=>by
   rcases hN with hN | hN
   ·rw[hN] at ho
    obtain⟨q,q1,q2,q3⟩:=ho
    rw[h1 id hN] at q1 q2 q3
    dsimp only at q1 q2 q3
    rw[hrl] at q2
    exact⟨(b,q),q1,rfl,by show q<=o;omega,q3,fun _=>q2⟩
   ·rw[hN] at ho
    obtain⟨q,q1,q2,q3⟩:=ho
    rw[(h2 id hN).1] at q1 q3
    dsimp only at q1 q3
    exact⟨(b,q),q1,rfl,q2,q3,fun⟨k,hk⟩=>by rw[hN] at hk;cases hk⟩
  have hU':(fun k=>U k\/(id<=k/\k<id+1)) (numN N):=by rw[hnum];exact .inr ⟨Nat.le_refl _,by omega⟩
  have hidN:¬ U (numN N):=by rw[hnum];exact hid
  have hget:∀ i y,(l0++l')[i]?=some y->(i<l0.length/\l0[i]?=some y)\/(∃ k,i=l0.length+k/\l'[k]?=some y):=fun i y hy=>by
   rw[List.getElem?_append] at hy
   split at hy
   ·exact .inl ⟨by assumption,hy⟩
   ·exact .inr ⟨i-l0.length,by omega,hy⟩
  rcases run_append (P:=P) (ty:=o.type) hun hi hx (w:=w) (pa:=pa) (pb:=yb) (n:=l0.length) (c:=c) (n2:=n2) (c2:=c2) hc.1 f3.1 ha (fun hq=>f4 (hyn hq)) hbytes h63 o1 m1 o2 m2' hone hlive with⟨hroom,hrun⟩ | ⟨cap,zs,hcap,hrun,hzl⟩
  ·
   obtain⟨M',hA,hMt,hMb⟩:=hM pa c
   refine StepOk.value (hop _ _ hrun) ⟨M',hA,?_⟩
   rw[← hrl]
   have hlc:LeC (l0++l').length c:=⟨by omega,by omega⟩
   have hreg:∀ b o,inN M' e N b o->reg st1 M K b o:=fun b o ho=>by
    obtain⟨p,q1,rfl,q2,q3,q4⟩:=hin M' pa c hMt hMb b o ho
    rcases hN with hN | hN
    ·have:=q4 ⟨id,hN⟩
     rw[Nat.add_mul] at this
     exact hspare p q1 o (by omega) q3
    ·exact hfull hN p q1 o q2 q3
   have hfit:(l0.length+n2)*e.size<=c*e.size:=Nat.mul_le_mul_right _ hroom
   rw[Nat.add_mul] at hfit
   have hnot:∀ p i j,pa=some p->i<(l0++l').length->j<e.size->∀ l,l≠K->¬ reg st1 M l p.1 (p.2+i*e.size+j):=fun p i j hp hi hj l hl hrg=>by
    rcases Nat.lt_or_ge i l0.length with h1 | h1
    ·exact hnotx p i j hp h1 hj l hl hrg
    ·have h2:=mul_cell (show i<l0.length+n2 by omega) hj
     have h3:l0.length*e.size<=i*e.size:=Nat.mul_le_mul_right _ h1
     rw[Nat.add_mul] at h2
     exact hl (h.dis _ _ _ _ hrg (hspare p hp _ (by omega) (by omega)))
   cases hpa:pa with
   | none =>
    subst hpa
    have h0:=ha rfl
    have e1:l0=[]:=List.eq_nil_of_length_eq_zero (by omega)
    have e2:l'=[]:=List.eq_nil_of_length_eq_zero (by omega)
    refine h.app hd (memTup hem).1 (W:=noOwn) hs hNs hidN (fun k hk=>.inl hk) hU' hA (Keeps.refl _ _) (fun _ _ h=>h.elim) hK0 hlc ha hMt hMb (fun p hp=>(by cases hp)) (fun b o ho=>.inl (hreg b o ho)) hnot
   | some p =>
    subst hpa
    have hW:∀ b o,(b=p.1/\p.2+l0.length*e.size<=o/\o<p.2+l0.length*e.size+news.length)->reg st1 M K b o:=by
     rintro b o ⟨rfl,w1,w2⟩
     exact hspare p rfl o w1 (by rw[m1] at w2;omega)
    have hk:Keeps (fun b o=>b=p.1/\p.2+l0.length*e.size<=o/\o<p.2+l0.length*e.size+news.length) w (w.setCells p.1 (p.2+l0.length*e.size) news) :=
     Keeps.setCells p.1 news _ w (fun j hj=>⟨rfl,by omega,by omega⟩)
    refine h.app hd (memTup hem).1 hs hNs hidN (fun k hk=>.inl hk) hU' hA hk hW hK0 hlc ha hMt hMb (fun q hq i y hy=>?_) (fun b o ho=>.inl (hreg b o ho)) hnot
    cases hq
    rcases hget i y hy with⟨h1,h2⟩ | ⟨k,rfl,h2⟩
    ·obtain⟨es,k1,k2,k3⟩:=helx p rfl i y h2
     refine⟨es,k1,fun j u hj=>?_,k3⟩
     have hj':j<e.size:=k1 ▸ (List.getElem?_eq_some_iff.1 hj).1
     have:=mul_cell h1 hj'
     rw[World.cell?_setCells_out p.1 news _ w _ (fun _ _=>Or.inl (by show _+_<_;omega))]
     exact k2 j u hj
    ·have hk2:k<l'.length:=(List.getElem?_eq_some_iff.1 h2).1
     refine⟨_,chunk_get (c:=n2) m1 (by omega),fun j u hj=>?_,m3 k y h2⟩
     have hj':=drop_take_get hj
     obtain⟨hlt,hv⟩:=List.getElem?_eq_some_iff.1 hj'
     have hin:=World.cell?_setCells_in p.1 news (p.2+l0.length*e.size) w (fun j hj=>(hlive p rfl j (by rw[m1] at hj;omega)).1) (k*e.size+j) hlt
     rw[hv] at hin
     rw[← hin]
     congr 2
     rw[Nat.add_mul]
     omega
  ·
   obtain⟨M',hA,hMt,hMb⟩:=hM (some (w.heap.size,0)) cap
   refine StepOk.value (hop _ _ hrun) ⟨M',hA,?_⟩
   have hf:Fresh w (w.drew.alloc (.cells (olds++news++zs).toArray et)) w.heap.size (olds++news++zs):=Fresh.drew
   rw[← hrl]
   have hlc:LeC (l0++l').length cap:=⟨by omega,by omega⟩
   have hon:(olds++news).length=(l0.length+n2)*e.size:=by rw[List.length_append,o1,m1,Nat.add_mul]
   refine h.app (pa:=some (w.heap.size,0)) hd (memTup hem).1 (W:=noOwn) hs hNs hidN (fun k hk=>.inl hk) hU' hA hf.keep (fun _ _ h=>h.elim) hK0 hlc (fun h=>(by cases h)) hMt hMb (fun q hq i y hy=>?_) (fun b o ho=>.inr ?_) (fun p i j hp _ _ l _ hrg=>?_)
   ·cases hq
    have hi':i<l0.length+n2:=by rw[← hrl];exact(List.getElem?_eq_some_iff.1 hy).1
    refine⟨((olds++news++zs).drop (i*e.size)).take e.size,chunk_get (c:=cap) hzl (by omega),fun j u hj=>?_,?_⟩
    ·have:=hf.cell _ _ (drop_take_get hj)
     simpa using this
    ·rw[chunk_left hon hi']
     rcases hget i y hy with⟨h1,h2⟩ | ⟨k,rfl,h2⟩
     ·rw[chunk_left o1 h1]
      exact o3 i y h2
     ·rw[chunk_right o1]
      exact m3 k y h2
   ·obtain⟨p,q1,rfl,q2,q3,_⟩:=hin M' _ cap hMt hMb b o ho
    cases q1
    dsimp only at q3 ⊢
    exact⟨Nat.le_refl _,hf.isSome (by omega),hf.fr⟩
   ·cases hp
    have:=h.own_lt ⟨l,hrg⟩
    dsimp only at this
    omega
 ·cases hr
end Go.VX
/- VX, part 59: slices.Insert: what it does to memory. -/
set_option linter.unusedVariables false
set_option linter.unusedSimpArgs false
namespace Go.VX
theorem run_copyK{P:Program} (w:World) (dT sT ty elem:TypeId) (i:TypeInfo) (b o dLen dCap:Nat) (a:Addr) (sLen sCap:Nat) (cs:List Value)
  (hu:P.underlying dT=some (.slice elem)) (hi:P.info? elem=some i) (hn:cs.length=Nat.min sLen dLen*i.size)
  (hsrc:∀ j v,cs[j]?=some v->w.cell? (a.add j)=some v) (hc:∀ j,j<cs.length->(w.cell? ⟨b,o+j,none⟩).isSome=true) (hf:∀ j,j<cs.length->w.frozen? ⟨b,o+j,none⟩=false) (h1:∀ v∈cs,v.oneCell'=true) :
  (Builtin.copy_ #[dT,sT] ty #[.slice (some ⟨b,o,none⟩) dLen dCap,.slice (some a) sLen sCap]).run P w=.ok (goInt (Nat.min sLen dLen)) (w.setCells b o cs):=by
 have hl:=run_loadCells_list (P:=P) w a cs hsrc
 have hst:=run_storeCells_cells (P:=P) b o cs 0 w (by simpa using hc) (by simpa using hf) h1
 simp [Builtin.copy_,run_underlying hu,Builtin.lenOf,Builtin.firstCells,sizeOf,typeInfo,hi,← hn,hl,hst]
theorem run_overlaps_own{P:Program} (w:World) (tS tR e:TypeId) (ht:P.underlying tS=some (.slice e)) (size:Nat) (hz:∀ w,(Go.sizeOf e).run P w=.ok size w)
  (vb voff b boff m mc lb cb:Nat) (hq:(w.cell? ⟨vb,voff,none⟩).isSome=true) (hp:(w.cell? ⟨b,boff,none⟩).isSome=true) (hc:Clean w b) (hap:vb=b->voff+m*size<=boff\/boff+lb*size<=voff) :
  (Extern.SlicesOverlaps.overlaps #[tS,tS] #[tR] #[.slice (some ⟨vb,voff,none⟩) m mc,.slice (some ⟨b,boff,none⟩) lb cb]).run P w=.ok (.bool false) w:=by
 change Sem.run P (α:=Value) (do
  let some t := (#[tS, tS] : Array TypeId)[0]? | stuck "slices.overlaps: no parameter types"
  let .slice elem ← underlying t | stuck "slices.overlaps: slice type expected"
  let size ← sizeOf elem
  match (some (⟨vb,voff,none⟩:Addr):Option Addr),(some (⟨b,boff,none⟩:Addr):Option Addr) with
  | some a,some b =>
   if m=0\/lb=0\/size=0 then pure (Value.bool false)
   else if a.block != b.block&&(← frozen a)&&(← frozen b) then unsupported .addressObserved
   else do
    if a.block != b.block then do
     noView a;noView b
     if ← mayBeOne a b then return Value.bool ((← choose (.extern "sameAddr.stringBytes" 2)) == 1)
    pure (Value.bool (a.block==b.block&&a.off<b.off+lb*size&&b.off<a.off+m*size))
  | _,_=>pure (Value.bool false)) w=_
 by_cases h0:m=0\/lb=0\/size=0
 ·simp [run_underlying ht,hz,h0]
 obtain⟨v1,hv1⟩:=Option.isSome_iff_exists.1 hq
 obtain⟨v2,hv2⟩:=Option.isSome_iff_exists.1 hp
 obtain⟨c1,e1,fr1,g1,g2⟩:=cell_some hv1
 obtain⟨c2,e2,fr2,g3,g4⟩:=cell_some hv2
 have hsa:w.shape? vb=some (e1,c1.size):=by simp [World.shape?,g1]
 have hsb:w.shape? b=some (e2,c2.size):=by simp [World.shape?,g3]
 have hk1:c1.size≠0:=by have:=(Array.getElem?_eq_some_iff.1 g2).1;omega
 have hk2:c2.size≠0:=by have:=(Array.getElem?_eq_some_iff.1 g4).1;omega
 have hfb:w.frozen? ⟨b,boff,none⟩=false:=hc boff
 have hfe:w.frozen? ⟨b,c2.size,none⟩=false:=hc _
 by_cases hne:vb=b
 ·have h3:=hap hne
  have hbb:(vb != b)=false:=by simp [hne]
  have hb':(vb==b)=true:=by simp [hne]
  have hd:(decide (voff<boff+lb*size)&&decide (boff<voff+m*size))=false:=by
   rcases h3 with h3 | h3
   ·rw[decide_eq_false (by omega:¬ boff<voff+m*size),Bool.and_false]
   ·rw[decide_eq_false (by omega:¬ voff<boff+lb*size),Bool.false_and]
  simp [run_underlying ht,hz,h0,hbb,hb',hd]
 ·have hnb:(vb != b)=true:=by simpa using hne
  have hnb':(vb==b)=false:=by simpa using hne
  cases hs1:c1.size with
  | zero=>exact absurd hs1 hk1
  | succ k1 =>
  cases hs2:c2.size with
  | zero=>exact absurd hs2 hk2
  | succ k2 =>
  rw[hs1] at hsa
  rw[hs2] at hsb hfe
  cases hfa:w.frozen? ⟨vb,voff,none⟩<;>cases hfz:w.frozen? ⟨vb,k1+1,none⟩ <;>
   simp [run_underlying ht,hz,h0,hnb,hnb',frozen,noView,viewAt,mayBeOne,stringish,shape,Sem.run,hsa,hsb,hfa,hfb,hfe,hfz]
def InsOut(e:Ty) (w:World) (pa:Option (Nat×Nat)) (n c m:Nat) (cells:List Value) (pa':Option (Nat×Nat)) (c':Nat) (w':World):Prop :=
 n+m<=c'/\(pa'=none->c'=0)/\Keeps (fun b o=>∃ p,pa=some p/\b=p.1/\p.2<=o/\o<p.2+c*e.size) w w' /\
 (∀ p',pa'=some p'->∀ (j:Nat) u,cells[j]?=some u->w'.cell? ⟨p'.1,p'.2+j,none⟩=some u) /\
 ((pa'=pa/\c'=c)\/∃ B,pa'=some (B,0)/\w.heap.size<=B/\(∀ o,o<c'*e.size->(w'.cell? ⟨B,o,none⟩).isSome=true)/\Clean w' B)
theorem get3{α:Type} {xs ys zs:List α} {j:Nat} {u:α} (h:(xs++ys++zs)[j]?=some u):(j<xs.length/\xs[j]?=some u)\/(∃ k,j=xs.length+k/\ys[k]?=some u)\/∃ k,j=xs.length+ys.length+k/\zs[k]?=some u:=by
 rw[List.append_assoc,List.getElem?_append] at h
 split at h
 ·exact .inl ⟨by assumption,h⟩
 ·rw[List.getElem?_append] at h
  split at h
  ·exact .inr (.inl ⟨j-xs.length,by omega,h⟩)
  ·exact .inr (.inr ⟨j-xs.length-ys.length,by omega,h⟩)
theorem cell_in{w:World} {b o:Nat} {vs:List Value} (h:∀ j,j<vs.length->(w.cell? ⟨b,o+j,none⟩).isSome=true) {k:Nat} {u:Value} (hk:vs[k]?=some u):(w.setCells b o vs).cell? ⟨b,o+k,none⟩=some u:=by
 obtain⟨hlt,hv⟩:=List.getElem?_eq_some_iff.1 hk
 rw[World.cell?_setCells_in b vs o w h k hlt,hv]
theorem cell_out{w:World} {b o b' o':Nat} {vs:List Value} (h:b'=b->o'<o\/o+vs.length<=o'):(w.setCells b o vs).cell? ⟨b',o',none⟩=w.cell? ⟨b',o',none⟩:=World.cell?_setCells_out b vs o w _ (fun h1 _=>h h1)
theorem some_set{w:World} {b o b' o':Nat} {vs:List Value} (hs:∀ j,j<vs.length->(w.cell? ⟨b,o+j,none⟩).isSome=true) (h:(w.cell? ⟨b',o',none⟩).isSome=true):((w.setCells b o vs).cell? ⟨b',o',none⟩).isSome=true:=by
 by_cases hin:b'=b/\o<=o'/\o'<o+vs.length
 ·obtain⟨rfl,h1,h2⟩:=hin
  have:=World.cell?_setCells_in b' vs o w hs (o'-o) (by omega)
  rw[show o+(o'-o)=o' by omega] at this
  rw[this];rfl
 ·rw[cell_out (fun e=>by by_cases hlt:o'<o;exact .inl hlt;exact .inr (by by_cases h2:o'<o+vs.length;exact(hin ⟨e,by omega,h2⟩).elim;omega))]
  exact h
theorem drew_cell(w:World) (x:Addr):w.drew.cell? x=w.cell? x:=rfl
theorem drew_frozen(w:World) (x:Addr):w.drew.frozen? x=w.frozen? x:=rfl
theorem Keeps.drew{I:Own} (w:World):Keeps I w w.drew:=Keeps.drewN w _
theorem ins_run{P:Program} {f:FuncId} {T et tI fo:Nat} {e:Ty} (W:InsWalks P f T et tI fo e.size) (hi:infoB P e et=true) {xi:TypeInfo} (hx:P.info? et=some xi) (hb0:0<xi.bytes) (hsz0:0<e.size) {w:World} {pa:Option (Nat×Nat)} {n c m mc i vb voff:Nat} {olds news:List Value}
  (hnc:n<=c) (ha:pa=none->c=0) (hm:0<m) (hmc:m<=mc) (hin:i<=n) (hbytes:(n+m)*xi.bytes<=140737488355328)
  (hol:olds.length=n*e.size) (hnl:news.length=m*e.size)
  (hoc:∀ p,pa=some p->∀ j u,olds[j]?=some u->w.cell? ⟨p.1,p.2+j,none⟩=some u) (hnw:∀ j u,news[j]?=some u->w.cell? ⟨vb,voff+j,none⟩=some u)
  (h1o:∀ u∈olds,u.oneCell'=true) (h1n:∀ u∈news,u.oneCell'=true)
  (hlive:∀ p,pa=some p->∀ j,j<c*e.size->(w.cell? ⟨p.1,p.2+j,none⟩).isSome=true/\Clean w p.1)
  (hap:∀ p,pa=some p->0<c*e.size->vb=p.1->voff+m*e.size<=p.2\/p.2+c*e.size<=voff) :
  ∃ pa' c' w',InsOut e w pa n c m (olds.take (i*e.size)++news++olds.drop (i*e.size)) pa' c' w' /\
   Calls P f #[.slice (pa.map adr) n c,.int .i64 i,.slice (some ⟨vb,voff,none⟩) m mc] w fun ex w2=>ex=.returned (.slice (pa'.map adr) (n+m) c')/\w2=w':=by
 obtain⟨hmem,xi',d,hx',hdd,hs,hag,hz⟩:=infoB_spec hi
 rw[hx] at hx'
 cases hx'
 have h63:n+m<=9223372036854775807:=by
  have:n+m<=(n+m)*xi.bytes:=Nat.le_mul_of_pos_right _ hb0
  omega
 have hnm:n*e.size<=c*e.size:=Nat.mul_le_mul_right _ hnc
 have hie:i*e.size<=n*e.size:=Nat.mul_le_mul_right _ hin
 have htl:(olds.take (i*e.size)).length=i*e.size:=by rw[List.length_take];omega
 have hdl:(olds.drop (i*e.size)).length=n*e.size-i*e.size:=by rw[List.length_drop,hol]
 have hsub:(n-i)*e.size=n*e.size-i*e.size:=Nat.sub_mul ..
 have hwun:=W.und
 by_cases heq:i=n
 ·subst heq
  have ht:olds.take (i*e.size)++news++olds.drop (i*e.size)=olds++news:=by
   rw[← hol,List.take_length,List.drop_length,List.append_nil]
  rw[ht]
  rcases run_append (P:=P) (ty:=0) hwun hi hx (w:=w) (pa:=pa) (pb:=some ⟨vb,voff,none⟩) (n:=i) (c:=c) (n2:=m) (c2:=mc) hnc hmc ha (fun h=>by cases h) hbytes h63 hol hnl hoc (fun p hp j u hj=>by cases hp;rw[Addr.add_lit];exact hnw j u hj) h1n
   (fun p hp j hj=>⟨by rw[Nat.add_assoc];exact(hlive p hp _ (by omega)).1,(hlive p hp (c*e.size-1) (by omega)).2 _⟩) with⟨hroom,hrun⟩ | ⟨cap,zs,hcap,hrun,hzl⟩
  ·have hfit:(i+m)*e.size<=c*e.size:=Nat.mul_le_mul_right _ hroom
   rw[Nat.add_mul] at hfit
   cases pa with
   | none=>have:=ha rfl;omega
   | some p =>
    refine⟨some p,c,_,⟨hroom,fun h=>(by cases h),Keeps.setCells p.1 news (p.2+i*e.size) w (fun j hj=>⟨p,rfl,rfl,by omega,by omega⟩),fun p' hp' j u hj=>?_,.inl ⟨rfl,rfl⟩⟩,W.last _ _ _ _ _ _ _ _ _ _ hm hnc (by omega) (fun h=>by cases h) (fun ty=>hrun)⟩
    cases hp'
    rw[List.getElem?_append] at hj
    split at hj
    ·rename_i hlt
     rw[cell_out (fun _=>.inl (by omega))]
     exact hoc p rfl j u hj
    ·rename_i hlt
     have:=cell_in (w:=w) (b:=p.1) (o:=p.2+i*e.size) (fun j hj=>by rw[Nat.add_assoc];exact(hlive p rfl _ (by omega)).1) hj
     rw[← this]
     congr 2
     omega
  ·refine⟨some (w.heap.size,0),cap,_,⟨hcap,fun h=>(by cases h),?_,fun p' hp' j u hj=>?_,.inr ⟨w.heap.size,rfl,Nat.le_refl _,fun o ho=>?_,fun o=>?_⟩⟩,W.last _ _ _ _ _ _ _ _ _ _ hm hnc (by omega) (fun h=>ha (by cases pa with | none=>rfl | some p=>cases h)) (fun ty=>hrun)⟩
   ·exact((Keeps.drewN w _).trans (Keeps.alloc w.drew _) (fun _ _ _ h=>h))
   ·cases hp'
    have hf:Fresh w (w.drew.alloc (.cells (olds++news++zs).toArray et)) w.heap.size (olds++news++zs):=Fresh.drew
    have:=hf.cell j u (by rw[List.getElem?_append_left (List.getElem?_eq_some_iff.1 hj).1];exact hj)
    simpa using this
   ·have hf:Fresh w (w.drew.alloc (.cells (olds++news++zs).toArray et)) w.heap.size (olds++news++zs):=Fresh.drew
    exact hf.isSome (by omega)
   ·have hf:Fresh w (w.drew.alloc (.cells (olds++news++zs).toArray et)) w.heap.size (olds++news++zs):=Fresh.drew
    exact hf.fr o
 ·have hlt:i<n:=by omega
  have hltm:(i+1)*e.size<=n*e.size:=Nat.mul_le_mul_right _ hlt
  rw[Nat.succ_mul] at hltm
  obtain⟨p,rfl⟩:∃ p,pa=some p:=by
   cases pa with
   | none=>have:=ha rfl;omega
   | some p=>exact⟨p,rfl⟩
  have hc0:0<c*e.size:=by omega
  have hcl:=(hlive p rfl 0 hc0).2
  have hsm:∀ j,j<c*e.size->(w.cell? ⟨p.1,p.2+j,none⟩).isSome=true:=fun j hj=>(hlive p rfl j hj).1
  have ham:(i+m)*e.size=i*e.size+m*e.size:=Nat.add_mul ..
  have hnm2:(n+m)*e.size=n*e.size+m*e.size:=Nat.add_mul ..
  have hms:e.size<=m*e.size:=Nat.le_mul_of_pos_left _ hm
  have h1d:∀ u∈olds.drop (i*e.size),u.oneCell'=true:=fun u hu=>h1o u (List.mem_of_mem_drop hu)
  have hv0:(w.cell? ⟨vb,voff,none⟩).isSome=true:=by
   have:0<news.length:=by omega
   have:=hnw 0 _ (List.getElem?_eq_getElem this)
   rw[Nat.add_zero] at this
   rw[this];rfl
  by_cases hroom:n+m<=c
  ·have hfit:(n+m)*e.size<=c*e.size:=Nat.mul_le_mul_right _ hroom
   obtain⟨tR,hovl⟩:=W.ovl
   have hov:∀ cb,(callFunc fo #[.slice (some ⟨vb,voff,none⟩) m mc,.slice (some ⟨p.1,p.2+(i+m)*e.size,none⟩) (n+m-(i+m)) cb]).run P w=.ok (.value (.bool false)) w:=fun cb=>by
    have hsz:∀ w,(Go.sizeOf et).run P w=.ok e.size w:=fun w=>by
     simp [sizeOf,typeInfo,hx,hs]
    have h5:(n+m-(i+m))*e.size=n*e.size-i*e.size:=by rw[show n+m-(i+m)=n-i by omega,hsub]
    rw[hovl,run_overlaps_own w T tR et hwun e.size hsz vb voff p.1 (p.2+(i+m)*e.size) m mc _ cb hv0 (hsm _ (by omega)) hcl (fun e0=>by have:=hap p rfl hc0 e0;omega)]
    rfl
   have hsp:∀ j,j<c*e.size->(w.drew.cell? ⟨p.1,p.2+j,none⟩).isSome=true:=hsm
   have hcp1:∀ ty dc sc,(Builtin.copy_ #[T,T] ty #[.slice (some ⟨p.1,p.2+(i+m)*e.size,none⟩) (n+m-(i+m)) dc,.slice (some ⟨p.1,p.2+i*e.size,none⟩) (n+m-i) sc]).run P w.drew=.ok (goInt (n-i)) (w.drew.setCells p.1 (p.2+(i+m)*e.size) (olds.drop (i*e.size))):=fun ty dc sc=>by
    have hmin:Nat.min (n+m-i) (n+m-(i+m))=n-i:=by simp only[Nat.min_def];split<;>omega
    have:=run_copyK (P:=P) w.drew T T ty et xi p.1 (p.2+(i+m)*e.size) (n+m-(i+m)) dc ⟨p.1,p.2+i*e.size,none⟩ (n+m-i) sc (olds.drop (i*e.size)) hwun hx (by rw[hmin,hs,hdl,hsub])
     (fun j v hj=>by rw[Addr.add_lit,drew_cell,Nat.add_assoc];exact hoc p rfl _ v (by rwa [List.getElem?_drop] at hj)) (fun j hj=>by rw[Nat.add_assoc];exact hsp _ (by rw[hdl] at hj;omega)) (fun j hj=>hcl _) h1d
    rw[this,hmin]
    congr 2
    omega
   have hcp2:∀ ty dc,(Builtin.copy_ #[T,T] ty #[.slice (some ⟨p.1,p.2+i*e.size,none⟩) (n+m-i) dc,.slice (some ⟨vb,voff,none⟩) m mc]).run P (w.drew.setCells p.1 (p.2+(i+m)*e.size) (olds.drop (i*e.size)))=.ok (goInt m) ((w.drew.setCells p.1 (p.2+(i+m)*e.size) (olds.drop (i*e.size))).setCells p.1 (p.2+i*e.size) news):=fun ty dc=>by
    have hmin:Nat.min m (n+m-i)=m:=by simp only[Nat.min_def];split<;>omega
    have:=run_copyK (P:=P) (w.drew.setCells p.1 (p.2+(i+m)*e.size) (olds.drop (i*e.size))) T T ty et xi p.1 (p.2+i*e.size) (n+m-i) dc ⟨vb,voff,none⟩ m mc news hwun hx (by rw[hmin,hs,hnl])
     (fun j v hj=>by
      have hj':=(List.getElem?_eq_some_iff.1 hj).1
      rw[Addr.add_lit,cell_out (fun e0=>by have:=hap p rfl hc0 e0;rw[hdl];omega),drew_cell];exact hnw j v hj)
     (fun j hj=>some_set (fun j hj=>by rw[Nat.add_assoc];exact hsp _ (by rw[hdl] at hj;omega)) (by rw[Nat.add_assoc];exact hsp _ (by omega))) (fun j hj=>by rw[World.frozen?_setCells];exact hcl _) h1n
    rw[this,hmin]
   refine⟨some p,c,_,⟨hroom,fun h=>(by cases h),?_,fun p' hp' j u hj=>?_,.inl ⟨rfl,rfl⟩⟩,W.shift p.1 p.2 n c i vb voff m mc w _ _ hlt hm hroom h63 hov hcp1 hcp2⟩
   ·refine((Keeps.drewN w _).trans (Keeps.setCells p.1 (olds.drop (i*e.size)) (p.2+(i+m)*e.size) w.drew (fun j hj=>⟨p,rfl,rfl,by omega,by rw[hdl] at hj;omega⟩)) (fun _ _ _ h=>h)).trans (Keeps.setCells p.1 news (p.2+i*e.size) _ (fun j hj=>⟨p,rfl,rfl,by omega,by omega⟩)) (fun _ _ _ h=>h)
   ·cases hp'
    have hs1:∀ j,j<(olds.drop (i*e.size)).length->(w.drew.cell? ⟨p.1,p.2+(i+m)*e.size+j,none⟩).isSome=true:=fun j hj=>by rw[Nat.add_assoc];exact hsp _ (by rw[hdl] at hj;omega)
    rcases get3 hj with⟨h1,h2⟩ | ⟨k,rfl,h2⟩ | ⟨k,rfl,h2⟩
    ·rw[htl] at h1
     rw[cell_out (fun _=>.inl (by omega)),cell_out (fun _=>.inl (by omega)),drew_cell]
     exact hoc p rfl j u (by rw[List.getElem?_take,if_pos h1] at h2;exact h2)
    ·rw[htl,← Nat.add_assoc]
     exact cell_in (fun j hj=>some_set hs1 (by rw[Nat.add_assoc];exact hsp _ (by omega))) h2
    ·have hk:=(List.getElem?_eq_some_iff.1 h2).1
     rw[htl,hnl,cell_out (fun _=>.inr (by omega))]
     have:=cell_in hs1 h2
     rw[← this]
     congr 2
     omega
  ·have hgc:c<n+m:=by omega
   have hkk:(n:Int)+(m:Int)-(i:Int)=((n+m-i:Nat):Int):=by omega
   have hik:i+(n+m-i)=n+m:=by omega
   have hz':xi.zero=some (valOf e.agg (zc e)):=by rw[hz];cases e.agg<;>rfl
   have hzc:(valOf e.agg (zc e)).cells=(zc e).toArray:=valOf_cells ((zero_rep P e hmem w noOwn default).one e (memTup hmem).1) (fun h=>by rw[zc_length e hmem];exact size_one h)
   have hzl:=zc_length e hmem
   have hzcl:∀ k,(Builtin.zeroCells (valOf e.agg (zc e)).cells k).toList.length=k*e.size:=fun k=>by
    rw[hzc]
    simp [Builtin.zeroCells,hzl]
   obtain⟨G,hG⟩:∃ G,G=grownCap w (n+m) c et:=⟨_,rfl⟩
   have hGn:n+m<=G:=by rw[hG];exact grownCap_ge w _ _ _
   have hGm:(n+m)*e.size<=G*e.size:=Nat.mul_le_mul_right _ hGn
   obtain⟨RL,hRL⟩:∃ RL:List Value,RL=olds.take (i*e.size)++(Builtin.zeroCells (valOf e.agg (zc e)).cells (n+m-i)).toList++(Builtin.zeroCells (valOf e.agg (zc e)).cells (G-(n+m))).toList:=⟨_,rfl⟩
   have hRl:RL.length=G*e.size:=by
    rw[hRL,List.length_append,List.length_append,htl,hzcl,hzcl,Nat.sub_mul,Nat.sub_mul]
    omega
   have hold:(Builtin.firstCells xi.size i (.slice (some ⟨p.1,p.2,none⟩) i c)).run P w.drew=.ok (olds.take (i*e.size)).toArray w.drew:=by
    rw[hs]
    exact run_firstCells_some w.drew e.size i ⟨p.1,p.2,none⟩ i c (olds.take (i*e.size)) (by rw[htl]) (fun j v hj=>by
     rw[Addr.add_lit]
     rw[List.getElem?_take] at hj
     split at hj
     ·exact hoc p rfl j v hj
     ·cases hj)
   have hkb:(n+m-i)*xi.bytes<=(n+m)*xi.bytes:=Nat.mul_le_mul_right _ (by omega)
   have hrz:∀ ty,(Builtin.append_ #[T,tI] ty #[.slice (some ⟨p.1,p.2,none⟩) i c,.int .i64 ((n:Int)+(m:Int)-(i:Int))]).run P w=.ok (.slice (some ⟨w.heap.size,0,none⟩) (n+m) G) (w.drew.alloc (.cells RL.toArray et)):=fun ty=>by
    have h:=Lib.run_append_grow_zeros (P:=P) w T tI ty et xi _ .i64 .i64 hwun W.undI hx hz' (some ⟨p.1,p.2,none⟩) i c (olds.take (i*e.size)) hold (n+m-i) (by omega) (by omega) (by omega) (by omega) (by omega) (by rw[hik];exact growslice_fits hgc hbytes)
    rw[hik,← hG] at h
    rw[hkk,h]
    congr 3
    apply Array.toList_inj.1
    rw[hRL]
    simp
   have hf:Fresh w (w.drew.alloc (.cells RL.toArray et)) w.heap.size RL:=Fresh.drew
   have hB:∀ j,j<G*e.size->((w.drew.alloc (.cells RL.toArray et)).cell? ⟨w.heap.size,0+j,none⟩).isSome=true:=fun j hj=>by rw[Nat.zero_add];exact hf.isSome (by omega)
   have hpw:p.1<w.heap.size:=by
    obtain⟨v,hv⟩:=Option.isSome_iff_exists.1 (hsm 0 (by omega))
    exact cell_lt hv
   have hvw:vb<w.heap.size:=by
    obtain⟨v,hv⟩:=Option.isSome_iff_exists.1 hv0
    exact cell_lt hv
   have hkept:∀ b o,b<w.heap.size->(w.drew.alloc (.cells RL.toArray et)).cell? ⟨b,o,none⟩=w.cell? ⟨b,o,none⟩:=fun b o hb=>hf.keep.cell b o hb (fun h=>h)
   have hcp1:∀ ty dc,(Builtin.copy_ #[T,T] ty #[.slice (some ⟨w.heap.size,i*e.size,none⟩) (n+m-i) dc,.slice (some ⟨vb,voff,none⟩) m mc]).run P (w.drew.alloc (.cells RL.toArray et))=.ok (goInt m) ((w.drew.alloc (.cells RL.toArray et)).setCells w.heap.size (i*e.size) news):=fun ty dc=>by
    have hmin:Nat.min m (n+m-i)=m:=by simp only[Nat.min_def];split<;>omega
    have:=run_copyK (P:=P) (w.drew.alloc (.cells RL.toArray et)) T T ty et xi w.heap.size (i*e.size) (n+m-i) dc ⟨vb,voff,none⟩ m mc news hwun hx (by rw[hmin,hs,hnl])
     (fun j v hj=>by rw[Addr.add_lit,hkept _ _ hvw];exact hnw j v hj) (fun j hj=>by have:=hB (i*e.size+j) (by omega);rwa [Nat.zero_add] at this) (fun j hj=>hf.fr _) h1n
    rw[this,hmin]
   have hcp2:∀ ty dc sc,(Builtin.copy_ #[T,T] ty #[.slice (some ⟨w.heap.size,(i+m)*e.size,none⟩) (n+m-(i+m)) dc,.slice (some ⟨p.1,p.2+i*e.size,none⟩) (n-i) sc]).run P ((w.drew.alloc (.cells RL.toArray et)).setCells w.heap.size (i*e.size) news).drew=.ok (goInt (n-i)) (((w.drew.alloc (.cells RL.toArray et)).setCells w.heap.size (i*e.size) news).drew.setCells w.heap.size ((i+m)*e.size) (olds.drop (i*e.size))):=fun ty dc sc=>by
    have hmin:Nat.min (n-i) (n+m-(i+m))=n-i:=by simp only[Nat.min_def];split<;>omega
    have:=run_copyK (P:=P) ((w.drew.alloc (.cells RL.toArray et)).setCells w.heap.size (i*e.size) news).drew T T ty et xi w.heap.size ((i+m)*e.size) (n+m-(i+m)) dc ⟨p.1,p.2+i*e.size,none⟩ (n-i) sc (olds.drop (i*e.size)) hwun hx (by rw[hmin,hs,hdl,hsub])
     (fun j v hj=>by
      rw[Addr.add_lit,drew_cell,cell_out (fun e0=>by omega),hkept _ _ hpw,Nat.add_assoc]
      exact hoc p rfl _ v (by rwa [List.getElem?_drop] at hj))
     (fun j hj=>by
      rw[drew_cell]
      exact some_set (fun j hj=>by have:=hB (i*e.size+j) (by omega);rwa [Nat.zero_add] at this) (by have:=hB ((i+m)*e.size+j) (by rw[hdl] at hj;omega);rwa [Nat.zero_add] at this))
     (fun j hj=>by rw[drew_frozen,World.frozen?_setCells];exact hf.fr _) h1d
    rw[this,hmin]
    congr 2
    omega
   refine⟨some (w.heap.size,0),G,_,⟨hGn,fun h=>(by cases h),?_,fun p' hp' j u hj=>?_,.inr ⟨w.heap.size,rfl,Nat.le_refl _,fun o ho=>?_,fun o=>?_⟩⟩,W.grow p.1 p.2 n c i vb voff m mc w.heap.size G w _ _ _ hlt hm hnc hgc hGn h63 hrz hcp1 hcp2⟩
   ·have k1:Keeps (fun b o=>b=w.heap.size) w (w.drew.alloc (.cells RL.toArray et)):=hf.keep.mono (fun _ _ h=>h.elim)
    have k2:=k1.trans (Keeps.setCells w.heap.size news (i*e.size) _ (fun j hj=>rfl)) (fun _ _ _ h=>h)
    have k3:=(k2.trans (Keeps.drew (I:=noOwn) _) (fun _ _ _ h=>h.elim)).trans (Keeps.setCells w.heap.size (olds.drop (i*e.size)) ((i+m)*e.size) _ (fun j hj=>rfl)) (fun _ _ _ h=>h)
    exact(Keeps.refl (fun b o=>∃ q,some p=some q/\b=q.1/\q.2<=o/\o<q.2+c*e.size) w).trans k3 (fun b o hb h=>by omega)
   ·cases hp'
    have hs0:∀ j,j<news.length->((w.drew.alloc (.cells RL.toArray et)).cell? ⟨w.heap.size,i*e.size+j,none⟩).isSome=true:=fun j hj=>by have:=hB (i*e.size+j) (by omega);rwa [Nat.zero_add] at this
    have hs1:∀ j,j<(olds.drop (i*e.size)).length->(((w.drew.alloc (.cells RL.toArray et)).setCells w.heap.size (i*e.size) news).drew.cell? ⟨w.heap.size,(i+m)*e.size+j,none⟩).isSome=true:=fun j hj=>by
     rw[drew_cell]
     exact some_set hs0 (by have:=hB ((i+m)*e.size+j) (by rw[hdl] at hj;omega);rwa [Nat.zero_add] at this)
    dsimp only
    rw[Nat.zero_add]
    rcases get3 hj with⟨h1,h2⟩ | ⟨k,rfl,h2⟩ | ⟨k,rfl,h2⟩
    ·rw[htl] at h1
     rw[cell_out (fun _=>.inl (by omega)),drew_cell,cell_out (fun _=>.inl (by omega))]
     refine hf.cell j u ?_
     rw[hRL,List.append_assoc,List.getElem?_append_left (by omega)]
     exact h2
    ·have hk:=(List.getElem?_eq_some_iff.1 h2).1
     rw[htl,cell_out (fun _=>.inl (by omega)),drew_cell]
     exact cell_in hs0 h2
    ·rw[htl,hnl]
     have:=cell_in hs1 h2
     rw[← this]
     congr 2
     omega
   ·have:=hB o ho
    rw[Nat.zero_add] at this
    refine some_set (fun j hj=>?_) ?_
    ·rw[drew_cell]
     exact some_set (fun j hj=>by have:=hB (i*e.size+j) (by omega);rwa [Nat.zero_add] at this) (by have:=hB ((i+m)*e.size+j) (by rw[hdl] at hj;omega);rwa [Nat.zero_add] at this)
    ·rw[drew_cell]
     exact some_set (fun j hj=>by have:=hB (i*e.size+j) (by omega);rwa [Nat.zero_add] at this) this
   ·rw[World.frozen?_setCells,drew_frozen,World.frozen?_setCells]
    exact hf.fr o
end Go.VX
/- VX, part 26: 'append', case by case. -/
set_option linter.unusedVariables false
set_option linter.unusedSimpArgs false
namespace Go.VX
theorem row_elems{P:Program} {w:World} {O:Own} {M:Mp} {id:Nat} {e:Ty} {l:List e.D} {s:Sh} (hb:BoxOk P w O M id ⟨.ms e,l,s⟩) {p:Nat×Nat} (hp:(M.row id).1=some p) :
  ∀ i y,l[i]?=some y->∃ es:List Value,es.length=e.size/\(∀ j u,es[j]?=some u->w.cell? ⟨p.1,p.2+i*e.size+j,none⟩=some u)/\RepC P e w O M y .o es:=by
 obtain⟨t0,a',n',c',k1,k2,k3,k4,k5⟩:=hb
 rw[k1] at hp
 exact(k5 p hp).2
theorem look_dead_f:∀ {ds:List (Nat×Bx)} {m:List (Nat×Bx)} {n:Nat},(ds.any fun p=>Nat.beq p.1 n)=false->look (putL ds m) n=look m n
 | [],m,n,_=>rfl
 | (k,x)::ds,m,n,h=>by
  simp only[List.any_cons,Bool.or_eq_false_iff] at h
  rw[putL,look_dead_f h.2,look_cons,if_neg]
  intro e
  subst e
  have:=h.1
  simp at this
theorem look_dead_t:∀ {ds:List (Nat×Bx)} {m:List (Nat×Bx)} {n:Nat},AllDead ds->(ds.any fun p=>Nat.beq p.1 n)=true->look (putL ds m) n=some .dead
 | (k,x)::ds,m,n,hd,h=>by
  have hx:x=.dead:=hd (k,x) (by simp)
  subst hx
  rw[putL]
  cases hb:ds.any fun p=>Nat.beq p.1 n with
  | true=>exact look_dead_t (fun q hq=>hd q (by simp [hq])) hb
  | false =>
   rw[look_dead_f hb,look_cons,if_pos]
   simp only[List.any_cons,hb,Bool.or_false] at h
   exact Nat.eq_of_beq_eq_true h
theorem putL_append{α:Type}:∀ (a b m:List (Nat×α)),putL (a++b) m=putL b (putL a m)
 | [],b,m=>rfl
 | p::a,b,m=>putL_append a b (p::m)
theorem ds_free{ds:List (Nat×Bx)} {U:Nat->Prop} {v:Vl} {id:Nat} (h:ds=[]\/∃ k,v.sh=.mref k/\ds=[(k,.dead)]) (hs:ShIn U v.sh) (hid:¬ U id):(ds.any fun p=>Nat.beq p.1 id)=false:=by
 rcases h with rfl | ⟨k,e,rfl⟩
 ·rfl
 ·rw[e] at hs
  have:k≠id:=fun e=>hid (e ▸ hs)
  cases hb:Nat.beq k id
  ·simp [hb]
  ·exact absurd (Nat.eq_of_beq_eq_true hb) this
theorem ok_append{P:Program} {E:Env} (hE:EnvOk P E) {o:Oper} {m:Bool} {c:Call} (ho:o.op=.call c) (hc:c.callee=.builtin .append):OpOk P E o m:=by
 intro w0 I nt U M st a w id h hd
 refine⟨false,fun ω _ p f hg hfr=>?_⟩
 simp only[evOp,ho,hc,evBuiltin] at hg
 split at hg
 ·rename_i x y t t' hargs htys
  split at hg
  ·rename_i htt
   have htt:=Nat.eq_of_beq_eq_true htt
   subst htt
   unfold evAppend at hg
   obtain⟨v,_,hv,hg,_⟩:=goes_opd hg
   obtain⟨u0,_,hu0,hg,_⟩:=goes_opd hg
   obtain⟨ru0,su0⟩:=opd_rep hE h hu0
   obtain⟨u,ds,_,hg,hrel,ry,sy,hpl,hty',hdead,_,hds⟩:=asVal_ok h hg ru0 su0 (fun _ _ _ _ _ _ h=>h)
   have hv1:Opd { st with bx:=putL ds st.bx } E x (look E.ty t) v:=hv
   obtain⟨rx,sx⟩:=opd_rep hE hrel hv1
   have hop:∀ v w',(Builtin.append_ #[t,t] o.type #[a.eval x,a.eval y]).run P w=.ok v w'->(execOp a.eval o).run P w=.ok (.value v) w':=fun v w' e=>by
    have e1:c.args=#[x,y]:=Array.toList_inj.1 hargs
    have e2:c.argTypes=#[t,t]:=Array.toList_inj.1 htys
    refine exec_builtin ho hc fun cs=>?_
    have e3:c.args.map a.eval=#[a.eval x,a.eval y]:=by rw[e1];simp
    rw[e2,e3]
    simp only[builtin,Sem.run_bind,e,Result.andThen_ok,Sem.run_pure]
   obtain⟨tv,l,s⟩:=v
   cases tv<;>first | (dsimp only at hg;cases hg;done) | skip
   rename_i e _ _
   dsimp only at hg rx
   split at hg
   ·rename_i l' lim hl' hlim'
    split at hlim'<;>try cases hlim'
    rename_i hty
    have hlim:=hlim'
    replace hty:=of_decide_eq_true hty
    obtain⟨tu,vu,su⟩:=u
    obtain⟨e2,rfl⟩:=castTo_eq hl'
    dsimp only at e2
    subst e2
    obtain⟨et,hun,hec,hem⟩:=chk_sl (hE.ty _ _ hty)
    have hi:=chk_info hec (mem_std hem)
    obtain⟨e2,xi,q1,q2,q3,q4⟩:=hE.lim _ _ hlim
    rw[hun] at q1
    cases q1
    obtain⟨pa,n,cp,x1,x2,x3,x4,x5⟩:=rep_sl rx
    have hcore:=fun(x1:a.eval x=.slice (pa.map adr) n cp) {K N:Loc} {l0:List e.D} {st':St} {r:List e.D}=>app_core (P:=P) (o:=o) hrel hd (ty:=o.type) hun hem hi q2 q3 q4 hop (pa:=pa) (n:=n) (c:=cp) x1 (l0:=l0) (K:=K) (N:=N) (id:=id) (su:=su) (yv:=a.eval y) (l':=vu) (r:=r) (st':=st')
    have hslot:∀ (b:List (Nat×Bx)) (t:List (Nat×Bool)) (pv:Vl) (n:Nat),look (st.patch o.dst { v:=some pv,bs:=b,ts:=t }).sl n=if o.dst=some n then some (some pv) else look st.sl n:=fun b t pv n=>by
     cases ho':o.dst with
     | none=>simp [St.patch]
     | some d=>simp only[St.patch,look_cons,Option.some.injEq]
    cases s with
    | nils =>
     dsimp only[SlSh] at x5
     have hl0:l=[]:=by have:=x4 x5;exact List.eq_nil_of_length_eq_zero (by omega)
     cases m with
     | false =>
      dsimp only at hg
      obtain⟨r,hr,hg⟩:=goes_eff hg
      have hid:¬ U id:=hfr id (Nat.le_refl _) (by cases hg;show id<id+1;omega)
      cases hg
      refine hcore (x1.val rfl) (K:=.s 1) (N:=.t id) x2 x3 x4 (.inl rfl) (by simp) hid (fun p hp=>?_) (fun p i j hp=>?_) (fun p hp=>?_) (fun hN=>(by cases hN)) hpl ry hr ⟨fun n=>hslot _ _ _ n,fun n=>?_,fun n=>?_⟩
      ·rw[x5] at hp;cases hp
      ·rw[x5] at hp;cases hp
      ·rw[x5] at hp;cases hp
      ·simp only[St.patch,reduceCtorEq,if_false]
      ·simp only[St.patch,look_put1,Loc.t.injEq,reduceCtorEq,if_false]
     | true =>
      dsimp only at hg
      obtain⟨r,hr,hg⟩:=goes_eff hg
      have hid:¬ U id:=hfr id (Nat.le_refl _) (by cases hg;show id<id+1;omega)
      cases hg
      have hfree:=ds_free hds su0 hid
      refine hcore (x1.val rfl) (K:=.s 1) (N:=.b id) x2 x3 x4 (.inr rfl) (by simp) hid (fun p hp=>?_) (fun p i j hp=>?_) (fun p hp=>?_) (fun _ p hp=>?_) hpl ry hr ⟨fun n=>hslot _ _ _ n,fun n=>?_,fun n=>?_⟩
      ·rw[x5] at hp;cases hp
      ·rw[x5] at hp;cases hp
      ·rw[x5] at hp;cases hp
      ·rw[x5] at hp;cases hp
      ·simp only[St.patch,putL,Loc.b.injEq,reduceCtorEq,if_false]
       by_cases hn:id=n
       ·subst hn
        rw[if_pos rfl,look_dead_f hfree,look_cons,if_pos rfl]
       ·rw[if_neg hn]
        cases hb:ds.any fun p=>Nat.beq p.1 n with
        | true=>rw[look_dead_t hdead hb,look_dead_t hdead hb]
        | false=>rw[look_dead_f hb,look_dead_f hb,look_cons,if_neg hn]
      ·simp only[St.patch,reduceCtorEq,if_false];rfl
    | tok k =>
     dsimp only[SlSh] at x5
     obtain⟨hE1,htk⟩:=x5
     cases m with
     | false =>
      dsimp only at hg
      cases hg with
      | rdT hk hg =>
      obtain⟨r,hr,hg⟩:=goes_eff hg
      have hid:¬ U id:=hfr id (Nat.le_refl _) (by cases hg;show id<id+1;omega)
      cases hg
      have hkid:k≠id:=fun e=>hid (e ▸ h.tk k hk)
      have hkr:∀ p,pa=some p->∀ o',p.2+n*e.size<=o'->o'<p.2+cp*e.size->reg { st with bx:=putL ds st.bx } M (.t k) p.1 o':=fun p hp o' h1 h2 =>
       by
       subst hp
       have htk:=htk.some
       exact⟨hk,p.2,by rw[htk],by rw[htk];exact h1,by rw[htk];exact h2⟩
      refine hcore (x1.val rfl) (K:=.t k) (N:=.t id) x2 x3 x4 (.inl rfl) (by simp) hid (fun p hp i y hy=>?_) (fun p i j hp hi hj lo _ hrg=>?_) hkr (fun hN=>(by cases hN)) hpl ry hr ⟨fun n=>hslot _ _ _ n,fun n=>?_,fun n=>?_⟩
      ·obtain⟨es,k1,k2,k3⟩:=hE1 p hp i y hy
       exact⟨es,k1,fun j u hj=>(k2 j u hj).1,k3⟩
      ·obtain⟨es,k1,k2,k3⟩:=hE1 p hp i _ (List.getElem?_eq_getElem (by omega))
       exact(k2 j _ (List.getElem?_eq_getElem (by omega))).2 ⟨lo,hrg⟩
      ·simp only[St.patch,reduceCtorEq,if_false]
      ·simp only[St.patch,putL,look_cons,Loc.t.injEq]
       by_cases h1:k=n
       ·subst h1;rw[if_pos rfl,if_neg (fun e=>hkid e.symm),if_pos rfl]
       ·rw[if_neg h1,if_neg h1]
     | true =>
      dsimp only at hg
      cases l with
      | cons z l=>cases hg
      | nil =>
      dsimp only at hg
      cases hg with
      | rdT hk hg =>
      obtain⟨r,hr,hg⟩:=goes_eff hg
      have hid:¬ U id:=hfr id (Nat.le_refl _) (by cases hg;show id<id+1;omega)
      cases hg
      have hfree:=ds_free hds su0 hid
      have hn0:n=0:=x2
      have hkr:∀ p,pa=some p->∀ o',p.2<=o'->o'<p.2+cp*e.size->reg { st with bx:=putL ds st.bx } M (.t k) p.1 o':=fun p hp o' h1 h2 =>
       by
       subst hp
       have htk:=htk.some
       exact⟨hk,p.2,by rw[htk],by rw[htk];dsimp only;rw[hn0];omega,by rw[htk];exact h2⟩
      refine hcore (x1.val rfl) (K:=.t k) (N:=.b id) x2 x3 x4 (.inr rfl) (by simp) hid (fun p hp i y hy=>?_) (fun p i j hp hi hj lo _ hrg=>?_) (fun p hp o' h1 h2=>hkr p hp o' (by omega) h2) (fun _=>hkr) hpl ry hr ⟨fun n=>hslot _ _ _ n,fun n=>?_,fun n=>?_⟩
      ·simp at hy
      ·omega
      ·simp only[St.patch,putL,Loc.b.injEq,reduceCtorEq,if_false]
       by_cases hn:id=n
       ·subst hn
        rw[if_pos rfl,look_dead_f hfree,look_cons,if_pos rfl]
       ·rw[if_neg hn]
        cases hb:ds.any fun p=>Nat.beq p.1 n with
        | true=>rw[look_dead_t hdead hb,look_dead_t hdead hb]
        | false=>rw[look_dead_f hb,look_dead_f hb,look_cons,if_neg hn]
      ·simp only[St.patch,putL,look_cons,Loc.t.injEq,reduceCtorEq,if_false]
    | mref k =>
     dsimp only[SlSh] at x5
     obtain⟨_,hg⟩:∃ f',Goes st ω (.rdW k fun c=>match castTo (.ms e) c,ds.any (fun p=>Nat.beq p.1 k) with
      | some l0,false=>.eff (.sl e) (app lim l0 vu) fun r=>.ret { v:=some ⟨.sl e,r,.mref id⟩,bs:=(id,.rw ⟨.ms e,r,.o⟩)::(k,.dead)::ds }
      | _,_=>.fail) p f':=by cases m<;>exact⟨_,hg⟩
     obtain⟨cb,_,hcb,hg,_⟩:=goes_rdW hg
     split at hg
     ·rename_i l0 hl0 hnk
      obtain⟨r,hr,hg⟩:=goes_eff hg
      have hid:¬ U id:=hfr id (Nat.le_refl _) (by cases hg;show id<id+1;omega)
      cases hg
      obtain⟨tc,vc,sc⟩:=cb
      obtain⟨e3,rfl⟩:=castTo_eq hl0
      dsimp only at e3
      subst e3
      have hfree:=ds_free hds su0 hid
      have hcb1:look ({ st with bx:=putL ds st.bx }:St).bx k=some (.rw ⟨.ms e,vc,sc⟩):=(look_dead_f hnk).trans hcb
      obtain⟨hbox,_,hUk⟩:=hrel.bx _ _ hcb1
      have hkid:k≠id:=fun e=>hid (e ▸ hUk)
      have hbox':=hbox
      obtain⟨t0,a',n',c',k1,k2,k3,k4,k5⟩:=hbox'
      rw[x5] at k1
      cases k1
      have hkr:∀ p,pa=some p->∀ o',p.2<=o'->o'<p.2+cp*e.size->reg { st with bx:=putL ds st.bx } M (.b k) p.1 o':=fun p hp o' h1 h2 =>
       ⟨_,hcb1,p.2,by rw[x5];exact hp,h1,by rw[x5];exact h2⟩
      refine hcore (x1.val rfl) (K:=.b k) (N:=.b id) k2 k3 x4 (.inr rfl) (by simp) hid (fun p hp=>row_elems hbox (by rw[x5];exact hp)) (fun p i j hp hi hj lo hlo hrg=>?_) (fun p hp o' h1 h2=>hkr p hp o' (by omega) h2) (fun _=>hkr) hpl ry hr ⟨fun n=>hslot _ _ _ n,fun n=>?_,fun n=>?_⟩
      ·have:=mul_cell (show i<cp by omega) hj
       exact hlo (hrel.dis _ _ _ _ hrg (hkr p hp _ (by omega) (by omega)))
      ·simp only[St.patch,putL,Loc.b.injEq]
       by_cases hn:id=n
       ·subst hn
        rw[if_pos rfl,look_dead_f hfree,look_cons,if_neg hkid,look_cons,if_pos rfl]
       ·rw[if_neg hn]
        cases hb:ds.any fun p=>Nat.beq p.1 n with
        | true=>rw[look_dead_t hdead hb,look_dead_t hdead hb];split<;>rfl
        | false=>rw[look_dead_f hb,look_dead_f hb,look_cons,look_cons,if_neg hn]
      ·simp only[St.patch,reduceCtorEq,if_false];rfl
     ·cases hg
    | _=>cases m<;>cases hg
   ·cases hg
  ·cases hg
 ·cases hg
end Go.VX
/- VX, part 27: stores. -/
set_option linter.unusedVariables false
set_option linter.unusedSimpArgs false
namespace Go.VX
theorem splice_get{cs us:List Value} {n j:Nat} (h:n+us.length<=cs.length):(splice cs us n)[j]?=if n<=j/\j<n+us.length then us[j-n]? else cs[j]?:=by
 unfold splice
 rw[List.getElem?_append,List.getElem?_append,List.length_append,List.length_take,Nat.min_eq_left (by omega)]
 by_cases h1:j<n
 ·rw[if_pos (by omega),if_pos h1,if_neg (by omega),List.getElem?_take,if_pos h1]
 ·by_cases h2:j<n+us.length
  ·rw[if_pos (by omega),if_neg h1,if_pos ⟨by omega,h2⟩]
  ·rw[if_neg (by omega),if_neg (by omega),List.getElem?_drop]
   congr 1
   omega
theorem set_get{w:World} {b o n:Nat} {cs us:List Value} (h:n+us.length<=cs.length) (hc:∀ j u,cs[j]?=some u->w.cell? ⟨b,o+j,none⟩=some u) :
  ∀ j u,(splice cs us n)[j]?=some u->(w.setCells b (o+n) us).cell? ⟨b,o+j,none⟩=some u:=by
 intro j u hj
 rw[splice_get h] at hj
 split at hj
 ·rename_i hr
  obtain⟨hlt,hv⟩:=List.getElem?_eq_some_iff.1 hj
  have hsome:∀ j,j<us.length->(w.cell? ⟨b,o+n+j,none⟩).isSome=true:=fun k hk=>by
   rw[Nat.add_assoc,hc (n+k) _ (List.getElem?_eq_getElem (by omega))];rfl
  have:=World.cell?_setCells_in b us (o+n) w hsome (j-n) hlt
  rw[hv] at this
  rw[← this]
  congr 2
  omega
 ·rename_i hr
  rw[World.cell?_setCells_out b us (o+n) w _ (fun _ _=>by show _+_<_\/_<=_+_;omega)]
  exact hc j u hj
theorem Rel.write{P:Program} {w0:World} {I:Own} {nt:Nat} {U:Nat->Prop} {M:Mp} {st:St} {a:Act} {w:World} (h:Rel P w0 I nt U M st a w) {dst:Option Tmp} (hd:∀ d,dst=some d->d<nt)
  {id:Nat} {c c':Vl} (hc:look st.bx id=some (.rw c)) {b o':Nat} {us:List Value} (hin:∀ j,j<us.length->inBox M id c.ty b (o'+j))
  (hreg:∀ b o,inBox M id c'.ty b o->inBox M id c.ty b o) (hbox:Ext (own st M) w (w.setCells b o' us)->BoxOk P (w.setCells b o' us) (own st M) M id c') (hs:ShIn U c'.sh) {st':St}
  (hsl:∀ n,look st'.sl n=if dst=some n then some none else look st.sl n) (hbx:∀ n,look st'.bx n=if id=n then some (.rw c') else look st.bx n) (htk:∀ n,look st'.tk n=look st.tk n) (htt:c'.ty.tup=false) (v0:Value:=undef) :
  Rel P w0 I nt U M st' (a.put dst v0) (w.setCells b o' us):=by
 have hW:∀ b' o,(b'=b/\o'<=o/\o<o'+us.length)->reg st M (.b id) b' o:=by
  rintro b' o ⟨rfl,h1,h2⟩
  have:=hin (o-o') (by omega)
  rw[show o'+(o-o')=o by omega] at this
  exact⟨c,hc,this⟩
 have hk:Keeps (fun b' o=>b'=b/\o'<=o/\o<o'+us.length) w (w.setCells b o' us):=Keeps.setCells b us o' w (fun j hj=>⟨rfl,by omega,by omega⟩)
 have hx:Ext (own st M) w (w.setCells b o' us):=hk.ext.mono fun b o _ hw=>⟨_,hW b o hw⟩
 have hregO:∀ l b o,reg st' M l b o->reg st M l b o:=by
  intro l b o hl
  cases l with
  | s n=>cases n<;>exact hl
  | b k =>
   obtain⟨v,h1,h2⟩:=hl
   rw[hbx] at h1
   split at h1
   ·rename_i e;subst e;cases h1;exact⟨c,hc,hreg b o h2⟩
   ·exact⟨v,h1,h2⟩
  | t k=>exact⟨by rw[← htk];exact hl.1,hl.2⟩
 have hown:∀ b o,own st' M b o->own st M b o:=fun b o ⟨l,hl⟩=>⟨l,hregO l b o hl⟩
 refine h.step hd (fun l=>l) (.s 1) (fun _ k=>k) (Agree.refl _ _) hk (fun b o hw=>⟨_,by simp,hW b o hw⟩) (pv:=none) hsl (fun x hx=>by cases hx) (fun l b o hl=>.inl ⟨l,hregO l b o hl,rfl⟩) (fun k v hv=>?_) (fun k z v hv=>?_) (fun k hk'=>h.tk k (by rw[← htk];exact hk')) (fun k v hk' hv'=>by
  rw[hbx] at hk'
  split at hk'
  ·cases hk';rw[htt] at hv';cases hv'
  ·exact hk')
 ·rw[hbx] at hv
  split at hv
  ·rename_i e
   subst e
   cases hv
   right
   refine⟨?_,hs,(h.bx _ _ hc).2.2⟩
   exact(hbox hx).mono (Ext.refl _ _) (fun b o _=>hown b o) (ShAg.refl _ _) rfl rfl (fun _ _ _=>rfl) (fun _=>rfl)
  ·rename_i e
   exact .inl ⟨hv,fun b o hr hw=>e (by have:=h.dis _ _ _ _ (hW b o hw) hr;cases this;rfl)⟩
 ·rw[hbx] at hv
  split at hv
  ·cases hv
  ·exact .inl hv
theorem setP_plain:∀ (p:List Nat) (v u v':Vl),setP v p u=some v'->v.sh.plain=true->u.sh.plain=true->v'.sh.plain=true
 | [],v,u,v',e,hv,hu=>by
  simp only[setP] at e
  split at e
  ·cases e;exact hu
  ·cases e
 | f::p,v,u,v',e,hv,hu=>by
  simp only[setP] at e
  split at e
  ·rename_i x hx
   split at e
   ·rename_i y hy
    exact setF_plain _ _ _ _ _ _ e hv (setP_plain p x u y hy (getF_plain _ _ _ _ _ hx hv) hu)
   ·cases e
  ·cases e
 where
 getF_plain:∀ (t:Ty) (x:t.D) (h:Sh) (f:Nat) (u:Vl),getF t x h f=some u->h.plain=true->u.sh.plain=true
  | .pr a b,x,h,0,u,e,hs=>by simp only[getF,Option.some.injEq] at e;subst e;exact Sh.plain_fst hs
  | .pr a b,x,h,f+1,u,e,hs=>getF_plain b x.2 h.snd f u (by simpa only[getF] using e) (Sh.plain_snd hs)
  | .int _,_,_,f,_,e,_=>by cases f<;>cases e
  | .bool,_,_,f,_,e,_=>by cases f<;>cases e
  | .str,_,_,f,_,e,_=>by cases f<;>cases e
  | .ptr,_,_,f,_,e,_=>by cases f<;>cases e
  | .unit,_,_,f,_,e,_=>by cases f<;>cases e
  | .sl _,_,_,f,_,e,_=>by cases f<;>cases e
  | .ms _,_,_,f,_,e,_=>by cases f<;>cases e
  | .tu _ _,_,_,f,_,e,_=>by cases f<;>cases e
  | .fn _ _,_,_,f,_,e,_=>by cases f<;>cases e
  | .rref _,_,_,f,_,e,_=>by cases f<;>cases e
  | .eref,_,_,f,_,e,_=>by cases f<;>cases e
  | .mh,_,_,f,_,e,_=>by cases f<;>cases e
  | .nx,_,_,f,_,e,_=>by cases f<;>cases e
 setF_plain:∀ (t:Ty) (x:t.D) (h:Sh) (f:Nat) (u v:Vl),setF t x h f u=some v->h.plain=true->u.sh.plain=true->v.sh.plain=true
  | .pr a b,x,h,0,u,v,e,hh,hu=>by
   simp only[setF,Option.some.injEq] at e
   subst e
   simp only[Sh.plain,hu,Sh.plain_snd hh,Bool.and_self]
  | .pr a b,x,h,f+1,u,v,e,hh,hu=>by
   simp only[setF] at e
   split at e
   ·rename_i y hy
    cases e
    simp only[Sh.plain,Sh.plain_fst hh,setF_plain b x.2 h.snd f u y hy (Sh.plain_snd hh) hu,Bool.and_self]
   ·cases e
  | .int _,_,_,f,_,_,e,_,_=>by cases f<;>cases e
  | .bool,_,_,f,_,_,e,_,_=>by cases f<;>cases e
  | .str,_,_,f,_,_,e,_,_=>by cases f<;>cases e
  | .ptr,_,_,f,_,_,e,_,_=>by cases f<;>cases e
  | .unit,_,_,f,_,_,e,_,_=>by cases f<;>cases e
  | .sl _,_,_,f,_,_,e,_,_=>by cases f<;>cases e
  | .ms _,_,_,f,_,_,e,_,_=>by cases f<;>cases e
  | .tu _ _,_,_,f,_,_,e,_,_=>by cases f<;>cases e
  | .fn _ _,_,_,f,_,_,e,_,_=>by cases f<;>cases e
  | .rref _,_,_,f,_,_,e,_,_=>by cases f<;>cases e
  | .eref,_,_,f,_,_,e,_,_=>by cases f<;>cases e
  | .mh,_,_,f,_,_,e,_,_=>by cases f<;>cases e
  | .nx,_,_,f,_,_,e,_,_=>by cases f<;>cases e
theorem arrPut_rep{P:Program} {e:Ty} {w:World} {O:Own} {M:Mp} {z:e.D} {us:List Value} (hu:RepC P e w O M z .o us) (hul:us.length=e.size) :
  ∀ (t:Ty) {x:t.D} {h:Sh} {cs:List Value} {l:List e.D} {j:Nat},RepC P t w O M x h cs->h.plain=true->arrL e t x=some l->j<l.length->RepC P t w O M (arrPut e t x j z) .o (splice cs us (j*e.size))
 | .unit,x,h,cs,l,j,r,hp,e1,hj=>by
  simp only[arrL,Option.some.injEq] at e1
  subst e1
  simp at hj
 | .pr a b,x,h,cs,l,j,r,hp,e1,hj=>by
  obtain⟨c1,c2,rfl,l1,l2,t1,t2,r1,r2⟩:=r
  simp only[arrL] at e1
  split at e1
  ·rename_i y r' hy hr
   cases e1
   obtain⟨e2,rfl⟩:=castTo_eq hy
   dsimp only at e2
   subst e2
   obtain⟨k1,k2⟩:=arrL_rep b r2 (Sh.plain_snd hp) hr
   cases j with
   | zero =>
    simp only[arrPut,if_true,dite_true]
    refine⟨us,c2,?_,hul,l2,t1,t2,hu,r2.forget _ (Sh.plain_snd hp) M⟩
    simp only[splice,Nat.zero_mul,List.take_zero,List.nil_append,Nat.zero_add]
    rw[hul,← l1,List.drop_left]
   | succ j =>
    simp only[List.length_cons] at hj
    have hz:=arrPut_rep hu hul b r2 (Sh.plain_snd hp) hr (j:=j) (by omega)
    have hbz:=hz.len t2
    rw[arrPut,if_neg (by omega)]
    refine⟨c1,splice c2 us (j*a.size),?_,l1,hbz,t1,t2,r1.forget _ (Sh.plain_fst hp) M,?_⟩
    ·simp only[splice]
     rw[Nat.succ_mul,Nat.add_comm (j*a.size),← l1,List.take_append,List.take_of_length_le (by omega),Nat.add_sub_cancel_left,List.append_assoc,List.append_assoc,List.append_assoc,Nat.add_assoc,
      List.drop_append,List.drop_of_length_le (show c1.length<=c1.length+(j*c1.length+us.length) by omega),Nat.add_sub_cancel_left,List.nil_append]
    ·rw[Nat.add_sub_cancel];exact hz
  ·cases e1
 | .int _,_,_,_,_,_,_,_,e1,_=>by cases e1
 | .bool,_,_,_,_,_,_,_,e1,_=>by cases e1
 | .str,_,_,_,_,_,_,_,e1,_=>by cases e1
 | .ptr,_,_,_,_,_,_,_,e1,_=>by cases e1
 | .sl _,_,_,_,_,_,_,_,e1,_=>by cases e1
 | .ms _,_,_,_,_,_,_,_,e1,_=>by cases e1
 | .tu _ _,_,_,_,_,_,_,_,e1,_=>by cases e1
 | .fn _ _,_,_,_,_,_,_,_,e1,_=>by cases e1
 | .rref _,_,_,_,_,_,_,_,e1,_=>by cases e1
 | .eref,_,_,_,_,_,_,_,e1,_=>by cases e1
 | .mh,_,_,_,_,_,_,_,e1,_=>by cases e1
 | .nx,_,_,_,_,_,_,_,e1,_=>by cases e1
theorem StepOk.skip{P:Program} {o:Oper} {a:Act} {w w':World} {R:Value->World->Prop} (hr:(execOp a.eval o).run P w=.ok .skip w') (h:R undef w'):StepOk P o a w R:=by
 unfold StepOk;rw[hr];exact h
theorem exec_store{P:Program} {o:Oper} {a:Act} {w:World} {t:TypeId} {ax x:Operand} (ho:o.op=.store t ax x) {b f:Nat} (ha:a.eval ax=.pointer (some ⟨b,f,none⟩)) {τ:Ty} (hi:infoB P τ t=true) {us:List Value}
  (hv:a.eval x=valOf τ.agg us) (hl:us.length=τ.size) (hc:∀ j,j<us.length->(w.cell? ⟨b,f+j,none⟩).isSome=true) (hf:∀ j,j<us.length->w.frozen? ⟨b,f+j,none⟩=false) (h1:∀ v∈us,v.oneCell'=true) :
  (execOp a.eval o).run P w=.ok .skip (w.setCells b f us):=by
 simp only[execOp,ho,ha,hv,Instr.storeAt,Instr.sureAddr,Sem.run_bind,Sem.run_pure,Result.andThen_ok,run_storeVar hi hl hc hf h1]
end Go.VX
/- VX, part 28: stores, the operation. -/
set_option linter.unusedVariables false
set_option linter.unusedSimpArgs false
namespace Go.VX
theorem ok_store{P:Program} {E:Env} (hE:EnvOk P E) {o:Oper} {m:Bool} {t:TypeId} {ax x:Operand} (ho:o.op=.store t ax x):OpOk P E o m:=by
 intro w0 I nt U M st a w id h hd
 refine⟨false,fun ω _ p f hg hfr=>?_⟩
 simp only[evOp,ho] at hg
 obtain⟨pv,_,hp,hg,_⟩:=goes_opd hg
 obtain⟨v,_,hv,hg,_⟩:=goes_opd hg
 obtain⟨rp,sp⟩:=opd_rep hE h hp
 obtain⟨rv,sv⟩:=opd_rep hE h hv
 have hslot:∀ (st:St) (b:List (Nat×Bx)) (n:Nat),look (st.patch o.dst { v:=none,bs:=b }).sl n=if o.dst=some n then some none else look st.sl n:=fun st b n=>by
  cases ho':o.dst with
  | none=>simp [St.patch]
  | some d=>simp only[St.patch,look_cons,Option.some.injEq]
 split at hg
 ·rename_i hty
  simp only[Bool.and_eq_true] at hty
  have hstd:=hty.2
  replace hty:=of_decide_eq_true hty.1
  have hchk:=hE.ty _ _ hty
  have hvstd:v.ty.tup=false->v.ty.std=true:=fun h=>chk_std hchk h
  have hvt0:v.ty.tup=false:=by cases hvt:v.ty<;>rw[hvt] at hstd<;>first | rfl | cases hstd
  have hvms:isMs v.ty=false:=ms_std hstd
  split at hg
  ·
   rename_i b path off _
   obtain⟨c,_,hc,hg,_⟩:=goes_rdW hg
   split at hg
   ·rename_i c' hset hoff
    replace hoff:=of_decide_eq_true hoff
    split at hg
    ·rename_i hct
     replace hct:=of_decide_eq_true hct
     cases hg
     have hms:isMs c.ty=false:=by
      obtain⟨tc,vc,sc⟩:=c
      cases tc<;>first | rfl | skip
      all_goals cases path with
      | nil =>
       simp only[setP] at hset
       split at hset
       ·cases hset
        dsimp only at hct
        rw[hct] at hvms
        cases hvms
       ·cases hset
      | cons q r =>
       simp only[setP] at hset
       split at hset
       ·rename_i x hx;cases q<;>cases hx
       ·cases hset
     obtain⟨hb1,hb2,hb3⟩:=h.bx _ _ hc
     obtain⟨ht,cs,rc,kc⟩:=(BoxOk.plain hms).1 hb1
     obtain⟨pp,e1,e2⟩:=rep_ptr rp
     dsimp only[PtrSh] at e1 e2
     subst e2
     have hvt:=hvt0
     obtain⟨us,u1,u2,u3⟩:=rep_cells hvt rv
     obtain⟨k1,k2,k3,k4,k5⟩:=setP_rep path rc ht hset u1 hvt hoff
     have hcl:=rc.len ht
     have hul:=u1.len hvt
     have hone:=u1.one _ hvt
     have hin:∀ j,j<us.length->inBox M b c.ty (M.box b).1 ((M.box b).2+off+j):=fun j hj=>(inBox.plain hms).2 ⟨rfl,by omega,by omega⟩
     have hlv:∀ j,j<us.length->(w.cell? ⟨(M.box b).1,(M.box b).2+off+j,none⟩).isSome=true/\w.frozen? ⟨(M.box b).1,(M.box b).2+off+j,none⟩=false:=fun j hj=>by
      obtain⟨l1,l2,_⟩:=h.live _ _ ⟨.b b,c,hc,hin j hj⟩
      exact⟨l1,l2 _⟩
     have hms':isMs c'.ty=false:=by rw[hct];exact hms
     refine StepOk.skip (exec_store ho e1 (chk_info hchk (hvstd hvt)) u3 hul (fun j hj=>(hlv j hj).1) (fun j hj=>(hlv j hj).2) hone) ⟨M,Agree.refl _ _,?_⟩
     have hw:=h.write hd hc (c':=c') (us:=us) (o':=(M.box b).2+off) hin (fun b o hb=>by rwa [hct] at hb) (fun hx=>?_) (setP_in _ _ _ _ hset hb2 sv) (hslot st [(b,.rw c')]) (fun n=>by simp only[St.patch,look_put1]) (fun n=>rfl) (by rw[hct];exact ht)
     ·refine hw.upd (fun k hk=>.inl hk) (Agree.refl _ _) (Ext.refl _ _) (fun _ _ _ h=>h) (fun n v hn=>.inl ⟨hn,rfl⟩) (fun n v hn=>.inl ⟨hn,fun _ _ _=>rfl⟩) (Ext.refl _ _) (fun _ _ _ h=>h) (fun n z v hn=>.inl hn) (fun k hk=>.inl (hw.tk k hk)) hw.live hw.dis hw.keep hw.size hw.defs (fun _ _ _ _=>rfl) (fun _ _ hk _=>hk)
     ·refine(BoxOk.plain hms').2 ⟨k4,splice cs us off,k1.mono P _ hx (fun _ _ _ h=>h) (ShAg.refl _ _),?_⟩
      exact set_get k5 kc
    ·cases hg
   ·cases hg
  ·
   rename_i j b path off str post poff _
   obtain⟨e1,e0⟩:=rep_eref rp
   obtain⟨u,ds,_,hg,hrel,ru,su,hpl,huty,hdead,_,hds⟩:=asVal_ok h hg rv sv (fun _ _ _ _ _ _ h=>h)
   obtain⟨c,_,hc,hg,_⟩:=goes_rdW hg
   have hut:u.ty.tup=false:=by rw[huty];exact hvt0
   have hvt:v.ty.tup=false:=by rw[← huty];exact hut
   obtain⟨us,u1,u2,u3⟩:=rep_cells hut ru
   have hul:=u1.len hut
   have hone:=u1.one _ hut
   split at hg
   ·cases hg
   ·rename_i hnd
    have hc1:look ({ st with bx:=putL ds st.bx }:St).bx b=some (.rw c):=(look_dead_f hnd).trans hc
    obtain⟨hb1,hb2,hb3⟩:=hrel.bx _ _ hc1
    have hbx:∀ (c':Vl) (n:Nat),look (st.patch o.dst { v:=none,bs:=(b,.rw c')::ds }).bx n=if b=n then some (.rw c') else look (putL ds st.bx) n:=fun c' n=>by
     simp only[St.patch,putL]
     by_cases hn:b=n
     ·subst hn
      rw[if_pos rfl,look_dead_f hnd,look_cons,if_pos rfl]
     ·rw[if_neg hn]
      cases hb:ds.any fun p=>Nat.beq p.1 n with
      | true=>rw[look_dead_t hdead hb,look_dead_t hdead hb]
      | false=>rw[look_dead_f hb,look_dead_f hb,look_cons,if_neg hn]
    have fin:∀ (c':Vl) (o':Nat),c'.ty.tup=false->(M.box b).2+off+(j:Int).toNat*str+poff=o'->(∀ j,j<us.length->inBox M b c.ty (M.box b).1 (o'+j))->(∀ b' o,inBox M b c'.ty b' o->inBox M b c.ty b' o)->ShIn U c'.sh ->
      (Ext (own { st with bx:=putL ds st.bx } M) w (w.setCells (M.box b).1 o' us)->BoxOk P (w.setCells (M.box b).1 o' us) (own { st with bx:=putL ds st.bx } M) M b c') ->
      StepOk P o a w fun v w'=>∃ M',Agree U M M'/\Rel P w0 I nt (fun k=>U k\/(id<=k/\k<id+1)) M' (st.patch o.dst { v:=none,bs:=(b,.rw c')::ds }) (a.put o.dst v) w':=fun c' o' htt hoe hin hreg hsh hbox=>by
     have hlv:∀ j,j<us.length->(w.cell? ⟨(M.box b).1,o'+j,none⟩).isSome=true/\w.frozen? ⟨(M.box b).1,o'+j,none⟩=false:=fun j hj=>by
      obtain⟨l1,l2,_⟩:=hrel.live _ _ ⟨.b b,c,hc1,hin j hj⟩
      exact⟨l1,l2 _⟩
     rw[hoe] at e1
     refine StepOk.skip (exec_store ho e1 (chk_info hchk (hvstd hvt)) (by rw[u3,huty]) (by rw[hul,huty]) (fun j hj=>(hlv j hj).1) (fun j hj=>(hlv j hj).2) hone) ⟨M,Agree.refl _ _,?_⟩
     have hw:=hrel.write hd hc1 (c':=c') (us:=us) (o':=o') (st':=st.patch o.dst { v:=none,bs:=(b,.rw c')::ds }) hin hreg hbox hsh (hslot st _) (hbx c') (fun n=>rfl) htt
     exact hw.upd (fun k hk=>.inl hk) (Agree.refl _ _) (Ext.refl _ _) (fun _ _ _ h=>h) (fun n v hn=>.inl ⟨hn,rfl⟩) (fun n v hn=>.inl ⟨hn,fun _ _ _=>rfl⟩) (Ext.refl _ _) (fun _ _ _ h=>h) (fun n z v hn=>.inl hn) (fun k hk=>.inl (hw.tk k hk)) hw.live hw.dis hw.keep hw.size hw.defs (fun _ _ _ _=>rfl) (fun _ _ hk _=>hk)
    split at hg
    ·
     rename_i e l s hgp
     obtain⟨y,hy,hg⟩:=goes_eff hg
     split at hg
     ·rename_i z hz
      split at hg
      ·rename_i z' hz' q1 q2 q3 q4
       replace q1:=of_decide_eq_true q1
       replace q2:=of_decide_eq_true q2
       replace q3:=of_decide_eq_true q3
       replace q4:=of_decide_eq_true q4
       cases hg
       subst q1 q2 q3
       simp only[getP,Option.some.injEq] at hgp
       subst hgp
       obtain⟨tz,vz,sz⟩:=z
       obtain⟨e3,rfl⟩:=castTo_eq hz'
       dsimp only at e3
       subst e3
       obtain⟨a0,a1,a2⟩:=ati_some hy
       have hb1':=hb1
       obtain⟨t0,pa,n,cp,k1,k2,k3,k4,k5⟩:=hb1'
       have hlt:(j:Int).toNat<l.length:=(List.getElem?_eq_some_iff.1 a1).1
       obtain⟨p,rfl⟩:∃ p,pa=some p:=by
        cases pa with
        | none=>have:=k4 rfl;omega
        | some p=>exact⟨p,rfl⟩
       obtain⟨f1,f2⟩:=k5 p rfl
       obtain⟨es,g1,g2,g3⟩:=f2 _ _ a1
       obtain⟨h1,h2,h3,h4,h5⟩:=setP_rep post (v:=⟨tz,y,.o⟩) g3 t0 hz u1 hut q4
       have hzp:=setP_plain _ _ _ _ hz rfl hpl
       dsimp only at h1 hzp
       refine fin ⟨.ms tz,l.set (j:Int).toNat vz,.o⟩ (p.2+(j:Int).toNat*tz.size+poff) rfl (by rw[f1];omega) (fun i hi=>?_) (fun b' o hb=>hb) trivial (fun hx=>?_)
       ·have:=row_in hb1 (by rw[k1]) hlt (j:=poff+i) (by omega)
        rw[f1]
        rwa [← Nat.add_assoc] at this
       ·refine⟨t0,some p,n,cp,k1,by rw[List.length_set];exact k2,k3,k4,fun q hq=>?_⟩
        cases hq
        refine⟨f1,fun i v' hv'=>?_⟩
        rw[List.getElem?_set] at hv'
        split at hv'
        ·rename_i hij
         subst hij
         cases hv'
         refine⟨splice es us poff,by rw[splice_length h5,g1],?_,(h1.forget _ hzp M).mono P _ hx (fun _ _ _ h=>h) trivial⟩
         rw[f1]
         exact set_get h5 g2
        ·rename_i hij
         obtain⟨es',g1',g2',g3'⟩:=f2 _ _ hv'
         have hi':i<l.length:=(List.getElem?_eq_some_iff.1 hv').1
         refine⟨es',g1',fun k u' hk=>?_,g3'.mono P _ hx (fun _ _ _ h=>h) trivial⟩
         have hk':k<tz.size:=g1' ▸ (List.getElem?_eq_some_iff.1 hk).1
         rw[f1,World.cell?_setCells_out p.1 us _ w _ (fun _ _=>?_)]
         ·exact g2' k u' hk
         ·show _+_<_\/_<=_+_
          rcases Nat.lt_or_gt_of_ne hij with hlt2 | hlt2
          ·right
           have:=Nat.mul_le_mul_right tz.size (show(j:Int).toNat+1<=i from hlt2)
           rw[Nat.succ_mul] at this
           omega
          ·left
           have:=mul_cell hlt2 hk'
           omega
      ·cases hg
     ·cases hg
    ·
     rename_i e b' y sh hgp
     split at hg
     ·rename_i l hl
      split at hl
      ·rename_i hshp
       obtain⟨y',hy,hg⟩:=goes_eff hg
       split at hg
       ·rename_i z hz
        split at hg
        ·rename_i z' hz' q1 q2 q3
         replace q1:=of_decide_eq_true q1
         replace q2:=of_decide_eq_true q2
         replace q3:=of_decide_eq_true q3
         split at hg
         ·rename_i c' hset
          split at hg
          ·rename_i hct
           replace hct:=of_decide_eq_true hct
           cases hg
           obtain⟨tz,vz,sz⟩:=z
           obtain⟨e3,rfl⟩:=castTo_eq hz'
           dsimp only at e3
           subst e3
           obtain⟨a0,a1,a2⟩:=ati_some hy
           have hlt:(j:Int).toNat<l.length:=(List.getElem?_eq_some_iff.1 a1).1
           have hms:isMs c.ty=false:=msP hgp rfl
           obtain⟨ht,cs,rc,kc⟩:=(BoxOk.plain hms).1 hb1
           obtain⟨n,g1,g2,g3,g4⟩:=getP_rep path rc ht hgp
           rw[g1] at q1
           have hno:=Option.some.inj q1
           obtain⟨m1,m2⟩:=arrL_rep _ g4 hshp hl
           have m3:=m2 _ _ a1 M
           have hte:tz.tup=false:=by obtain⟨_,_,_,_,_,t1,_⟩:=g4;exact t1
           obtain⟨h1,h2,h3,h4,h5⟩:=setP_rep post (v:=⟨tz,y',.o⟩) m3 hte hz u1 hut q3
           have hzp:=setP_plain _ _ _ _ hz rfl hpl
           dsimp only at h1 hzp
           have hcl:=rc.len ht
           have hchl:=chunk_get m1 hlt
           have hzl:(splice ((List.drop ((j:Int).toNat*tz.size) (List.take (Ty.pr tz b').size (List.drop n cs))).take tz.size) us poff).length=tz.size:=by rw[splice_length h5];exact hchl
           have hput:=arrPut_rep (h1.forget _ hzp M) hzl _ g4 hshp hl hlt
           have hgl:=g4.len g3
           dsimp only at hgl g2 m1
           have hfit:((j:Int).toNat+1)*tz.size<=l.length*tz.size:=Nat.mul_le_mul_right _ hlt
           rw[Nat.succ_mul] at hfit
           rw[hchl] at h5
           rw[splice_splice (by rw[hgl];omega) h5] at hput
           obtain⟨s1,s2,s3,s4,s5⟩:=setP_rep path (u:=⟨.pr tz b',arrPut tz (.pr tz b') y (j:Int).toNat vz,.o⟩) rc ht hset hput g3 g1
           rw[splice_splice (k:=(Ty.pr tz b').size) g2 (by omega)] at s1
           have hms':isMs c'.ty=false:=by rw[hct];exact hms
           refine fin c' ((M.box b).2+(n+((j:Int).toNat*tz.size+poff))) (by rw[hct];exact ht) (by rw[q2];omega) (fun i hi=>(inBox.plain hms).2 ⟨rfl,by omega,by omega⟩) (fun b' o hb=>by rwa [hct] at hb) (setP_in _ _ _ _ hset hb2 trivial) (fun hx=>?_)
           refine(BoxOk.plain hms').2 ⟨s4,_,s1.mono P _ hx (fun _ _ _ h=>h) (ShAg.refl _ _),?_⟩
           exact set_get (by omega) kc
          ·cases hg
         ·cases hg
        ·cases hg
       ·cases hg
      ·cases hl
     ·cases hg
    ·cases hg
  ·cases hg
 ·cases hg
end Go.VX
/- VX, part 29: what a callee is handed. -/
set_option linter.unusedVariables false
set_option linter.unusedSimpArgs false
namespace Go.VX
structure MtExt (m m':Mt):Prop where
  bm:∀ k q,look m.bm k=some q->look m'.bm k=some q
  tm:∀ k q,look m.tm k=some q->look m'.tm k=some q
theorem MtExt.refl(m:Mt):MtExt m m:=⟨fun _ _ h=>h,fun _ _ h=>h⟩
theorem MtExt.trans{m m1 m2:Mt} (h:MtExt m m1) (k:MtExt m1 m2):MtExt m m2:=⟨fun a q e=>k.bm a q (h.bm a q e),fun a q e=>k.tm a q (h.tm a q e)⟩
theorem MtExt.addB{m:Mt} {k:Nat} {q:Nat×List Nat×Nat} (h:look m.bm k=none):MtExt m { m with bm:=(k,q)::m.bm }:=by
  refine⟨fun a r e=>?_,fun _ _ e=>e⟩
  show look ((k,q)::m.bm) a=_
  rw[look_cons,if_neg (fun e'=>by subst e';rw[h] at e;cases e)]
  exact e
theorem MtExt.addT{m:Mt} {k:Nat} {q:Option Nat} (h:look m.tm k=none):MtExt m { m with tm:=(k,q)::m.tm }:=by
  refine⟨fun _ _ e=>e,fun a r e=>?_⟩
  show look ((k,q)::m.tm) a=_
  rw[look_cons,if_neg (fun e'=>by subst e';rw[h] at e;cases e)]
  exact e
theorem matchSh_cases{s h:Sh} {m m':Mt} (e:matchSh s h m=some m') :
    (s=.o/\h.plain=true/\m'=m)\/(s=.nilp/\h=.nilp/\m'=m)\/(s=.nils/\h=.nils/\m'=m) \/
    (∃ k id p off,s=.box k [] 0/\h=.box id p off/\look m'.bm k=some (id,p,off)/\((m'=m)\/(look m.bm k=none/\memB m.bm id=false/\m'={ m with bm:=(k,id,p,off)::m.bm }))) \/
    (∃ j k,s=.tok j/\h=.tok k/\look m.tm j=none/\memT m.tm k=false/\m'={ m with tm:=(j,some k)::m.tm }) \/
    (∃ j,s=.tok j/\h=.nils/\look m.tm j=none/\m'={ m with tm:=(j,none)::m.tm }) \/
    (∃ a b c d m1,s=.pr a b/\h=.pr c d/\matchSh a c m=some m1/\matchSh b d m1=some m'):=by
  unfold matchSh at e
  split at e
  · split at e
    · cases e;exact .inl ⟨rfl,by assumption,rfl⟩
    · cases e
  · cases e;exact .inr (.inl ⟨rfl,rfl,rfl⟩)
  · cases e;exact .inr (.inr (.inl ⟨rfl,rfl,rfl⟩))
  · rename_i k id p off
    refine .inr (.inr (.inr (.inl ⟨k,id,p,off,rfl,rfl,?_⟩)))
    split at e
    · rename_i hk
      split at e
      · rename_i hm
        cases e
        exact⟨by show look ((k,id,p,off)::m.bm) k=_;rw[look_cons,if_pos rfl],.inr ⟨hk,hm,rfl⟩⟩
      · cases e
    · rename_i q hk
      split at e
      · rename_i hq
        have hq:=of_decide_eq_true hq
        cases e
        exact⟨by rw[hk,hq],.inl rfl⟩
      · cases e
  · rename_i j k
    split at e
    · rename_i h1 h2
      cases e
      exact .inr (.inr (.inr (.inr (.inl ⟨j,k,rfl,rfl,h1,h2,rfl⟩))))
    · cases e
  · rename_i j
    split at e
    · rename_i h1
      cases e
      exact .inr (.inr (.inr (.inr (.inr (.inl ⟨j,rfl,rfl,h1,rfl⟩)))))
    · cases e
  · rename_i a b c d
    split at e
    · rename_i m1 h1
      exact .inr (.inr (.inr (.inr (.inr (.inr ⟨a,b,c,d,m1,rfl,rfl,h1,e⟩)))))
    · cases e
  · cases e
theorem matchSh_ext:∀ (s h:Sh) {m m':Mt},matchSh s h m=some m'->MtExt m m':=by
  intro s
  induction s with
  | pr a b iha ihb =>
    intro h m m' e
    rcases matchSh_cases e with⟨h1,_⟩ | ⟨h1,_⟩ | ⟨h1,_⟩ | ⟨_,_,_,_,h1,_⟩ | ⟨_,_,h1,_⟩ | ⟨_,h1,_⟩ | ⟨a',b',c,d,m1,h1,h2,h3,h4⟩<;>first | (cases h1;done) | skip
    cases h1
    exact(iha c h3).trans (ihb d h4)
  | _ =>
    intro h m m' e
    rcases matchSh_cases e with⟨h1,_,rfl⟩ | ⟨h1,_,rfl⟩ | ⟨h1,_,rfl⟩ | ⟨_,_,_,_,h1,_,_,rfl | ⟨h2,_,rfl⟩⟩ | ⟨_,_,h1,_,h2,_,rfl⟩ | ⟨_,h1,_,h2,rfl⟩ | ⟨a',b',c,d,m1,h1,h2,h3,h4⟩ <;>
      first | exact MtExt.refl _ | exact MtExt.addB h2 | exact MtExt.addT h2 | cases h1
theorem matchSh_plain:∀ (s h:Sh) {m m':Mt},matchSh s h m=some m'->h.plain=true:=by
  intro s
  induction s with
  | pr a b iha ihb =>
    intro h m m' e
    rcases matchSh_cases e with⟨h1,_⟩ | ⟨h1,_⟩ | ⟨h1,_⟩ | ⟨_,_,_,_,h1,_⟩ | ⟨_,_,h1,_⟩ | ⟨_,h1,_⟩ | ⟨a',b',c,d,m1,h1,h2,h3,h4⟩<;>first | (cases h1;done) | skip
    cases h1
    subst h2
    simp [Sh.plain,iha c h3,ihb d h4]
  | _ =>
    intro h m m' e
    rcases matchSh_cases e with⟨h1,h2,_⟩ | ⟨h1,h2,_⟩ | ⟨h1,h2,_⟩ | ⟨_,_,_,_,h1,h2,_⟩ | ⟨_,_,h1,h2,_⟩ | ⟨_,h1,h2,_⟩ | ⟨a',b',c,d,m1,h1,h2,h3,h4⟩ <;>
      first | exact h2 | (subst h2;rfl) | cases h1
structure MtOk (M Mc:Mp) (m:Mt):Prop where
  bm:∀ k id p off,look m.bm k=some (id,p,off)->Mc.box k=((M.box id).1,(M.box id).2+off)
  tm:∀ j t,look m.tm j=some (some t)->Mc.tok j=M.tok t
  tn:∀ j,look m.tm j=some none->(Mc.tok j).1=none
theorem MtOk.anti{M Mc:Mp} {m m':Mt} (h:MtOk M Mc m') (k:MtExt m m'):MtOk M Mc m :=
  ⟨fun a id p off e=>h.bm a id p off (k.bm _ _ e),fun j t e=>h.tm j t (k.tm _ _ e),fun j e=>h.tn j (k.tm _ _ e)⟩
theorem TokAt.ren{M M':Mp} {j k:Nat} {a:Option (Nat×Nat)} {n c sz:Nat} (h:TokAt M k a n c sz) (hm:M'.tok j=M.tok k):TokAt M' j a n c sz:=by
  unfold TokAt;rw[hm];exact h
theorem matchSh_rep{P:Program} {w:World} {O O':Own} {M Mc:Mp} (hO:∀ b o,b<w.heap.size->O' b o->O b o):∀ (s:Sh) (t:Ty) (h:Sh) {m m':Mt} {x:t.D} {cs:List Value},
    matchSh s h m=some m'->MtOk M Mc m'->RepC P t w O M x h cs->RepC P t w O' Mc x s cs:=by
  intro s
  induction s with
  | pr a b iha ihb =>
    intro t h m m' x cs e hm r
    have r0:RepC P t w O' Mc x .o cs:=(r.forget t (matchSh_plain _ _ e) Mc).mono P t (Ext.refl _ _) hO trivial
    rcases matchSh_cases e with⟨h1,_⟩ | ⟨h1,_⟩ | ⟨h1,_⟩ | ⟨_,_,_,_,h1,_⟩ | ⟨_,_,h1,_⟩ | ⟨_,h1,_⟩ | ⟨a',b',c,d,m1,h1,h2,h3,h4⟩<;>first | (cases h1;done) | skip
    cases h1
    subst h2
    cases t<;>first | exact r0 | skip
    · obtain⟨c1,c2,e1,l1,l2,t1,t2,r1,r2⟩:=r
      exact⟨c1,c2,e1,l1,l2,t1,t2,iha _ c h3 (hm.anti (matchSh_ext _ _ h4)) r1,ihb _ d h4 hm r2⟩
    · obtain⟨v,vs,e1,t1,r1,r2⟩:=r
      exact⟨v,vs,e1,t1,r1.imp fun _ hc=>iha _ c h3 (hm.anti (matchSh_ext _ _ h4)) hc,ihb _ d h4 hm r2⟩
    · clear iha ihb r
      cases a<;>cases b<;>first | exact r0 | skip
      all_goals (cases d<;>simp [matchSh] at h4)
  | _ =>
    intro t h m m' x cs e hm r
    have r0:RepC P t w O' Mc x .o cs:=(r.forget t (matchSh_plain _ _ e) Mc).mono P t (Ext.refl _ _) hO trivial
    rcases matchSh_cases e with⟨h1,h2,_⟩ | ⟨h1,h2,_⟩ | ⟨h1,h2,_⟩ | ⟨k,id,p,off,h1,h2,h3,_⟩ | ⟨j,k,h1,h2,h3,_,h4⟩ | ⟨j,h1,h2,h3,h4⟩ | ⟨a',b',c,d,m1,h1,h2,h3,h4⟩<;>first | (cases h1;done) | skip
    all_goals first
      | exact r0
      | (subst h2;exact r.mono P t (Ext.refl _ _) hO trivial)
      | (cases h1;subst h2;cases t<;>first
          | exact r0
          | (obtain⟨q,e1,e2⟩:=r
             refine⟨q,e1,?_⟩
             first
               | (dsimp only[PtrSh] at e2 ⊢
                  rw[e2,hm.bm _ _ _ _ h3];rfl)
               | (dsimp only[MapSh] at e2 ⊢
                  rw[e2,hm.bm _ _ _ _ h3])))
      | (cases h1;subst h2 h4;cases t<;>first
          | exact r0
          | (obtain⟨pa,n,c,e1,e2,e3,e4,e5⟩:=r
             refine⟨pa,n,c,e1,e2,e3,e4,?_⟩
             dsimp only[SlSh] at e5 ⊢
             first
               | exact⟨fun p hp=>(e5.1 p hp).imp (Ext.refl _ _) hO (fun y es hy=>hy.mono P _ (Ext.refl _ _) hO trivial),e5.2.ren (hm.tm _ _ (by show look ((_,_)::_) _=_;rw[look_cons,if_pos rfl]))⟩
               | (subst e5
                  exact⟨fun p hp=>(by cases hp),.inr ⟨rfl,hm.tn _ (by show look ((_,_)::_) _=_;rw[look_cons,if_pos rfl])⟩⟩)))
end Go.VX
/- VX, part 30: arguments. -/
set_option linter.unusedVariables false
set_option linter.unusedSimpArgs false
namespace Go.VX
def AsV(st:St) (v u:Vl) (d:List (Nat×Bx)):Prop :=
 (v.sh.plain=true/\u=v/\d=[])\/∃ e x id l s,v=⟨.sl e,x,.mref id⟩/\look st.bx id=some (.rw ⟨.ms e,l,s⟩)/\u=⟨.sl e,l,.o⟩/\d=[(id,.dead)]
def ValsR(st:St):List Vl->List Vl->List (Nat×Bx)->Prop
 | [],[],ds=>ds=[]
 | v::vs,u::us,ds=>∃ d ds',ds=d++ds'/\AsV st v u d/\ValsR st vs us ds'
 | _,_,_=>False
theorem goes_valsOf{st:St} {ω:Bool}:∀ (vs:List Vl) (k:List Vl->List (Nat×Bx)->RM) (p:Patch) (f:List Loc),Goes st ω (valsOf vs k) p f ->
  ∃ us ds f',ValsR st vs us ds/\Goes st ω (k us ds) p f'/\(∀ l∈f',l∈f)
 | [],k,p,f,g=>⟨[],[],f,rfl,g,fun _ h=>h⟩
 | v::vs,k,p,f,g=>by
  simp only[valsOf] at g
  unfold asVal at g
  split at g
  ·rename_i e x id
   obtain⟨c,f',hc,g,hf⟩:=goes_rdW g
   split at g
   ·rename_i l hl
    obtain⟨e2,rfl⟩:=castTo_eq hl
    obtain⟨tc,vc,sc⟩:=c
    dsimp only at e2
    subst e2
    obtain⟨us,ds,f2,h1,g,h2⟩:=goes_valsOf vs _ p f' g
    refine⟨⟨.sl e,vc,.o⟩::us,[(id,.dead)]++ds,f2,⟨_,ds,rfl,.inr ⟨e,x,id,vc,sc,rfl,hc,rfl,rfl⟩,h1⟩,g,fun l hl=>by rw[hf];exact List.mem_cons_of_mem _ (h2 l hl)⟩
   ·cases g
  ·split at g
   ·rename_i hp
    obtain⟨us,ds,f2,h1,g,h2⟩:=goes_valsOf vs _ p f g
    exact⟨v::us,[]++ds,f2,⟨[],ds,rfl,.inl ⟨hp,rfl,rfl⟩,h1⟩,g,h2⟩
   ·cases g
def ValsIn(P:Program) (w:World) (O:Own) (M:Mp) (U:Nat->Prop):List Vl->List Value->Prop
 | [],[]=>True
 | v::vs,x::xs=>RepV P v.ty w O M v.val v.sh x/\ShIn U v.sh/\ValsIn P w O M U vs xs
 | _,_=>False
theorem ValsIn.mono{P:Program} {w:World} {O O':Own} {M:Mp} {U:Nat->Prop} (hO:∀ b o,O' b o->O b o):∀ {vs:List Vl} {xs:List Value},ValsIn P w O M U vs xs->ValsIn P w O' M U vs xs
 | [],[],_=>trivial
 | v::vs,x::xs,⟨h1,h2,h3⟩=>⟨h1.mono P (Ext.refl _ _) (fun b o _=>hO b o) (ShAg.refl _ _),h2,h3.mono hO⟩
 | [],_::_,h=>h.elim
 | _::_,[],h=>h.elim
theorem ValsIn.len{P:Program} {w:World} {O:Own} {M:Mp} {U:Nat->Prop}:∀ {vs:List Vl} {xs:List Value},ValsIn P w O M U vs xs->vs.length=xs.length
 | [],[],_=>rfl
 | v::vs,x::xs,⟨_,_,h3⟩=>by simp [h3.len]
 | [],_::_,h=>h.elim
 | _::_,[],h=>h.elim
theorem goes_opdV{P:Program} {E:Env} (hE:EnvOk P E) {w0:World} {I:Own} {nt:Nat} {U:Nat->Prop} {M:Mp} {st:St} {a:Act} {w:World} (h:Rel P w0 I nt U M st a w) {ω:Bool} :
  ∀ (xs:List (Operand×Option Ty)) (k:List Vl->RM) (p:Patch) (f:List Loc),Goes st ω (opdL E xs k) p f ->
   ∃ vs f',ValsIn P w (own st M) M U vs (xs.map fun x=>a.eval x.1)/\Goes st ω (k vs) p f'/\(∀ l∈f',l∈f)
 | [],k,p,f,g=>⟨[],f,trivial,g,fun _ h=>h⟩
 | (x,t)::xs,k,p,f,g=>by
  simp only[opdL] at g
  obtain⟨v,f1,hv,g,h1⟩:=goes_opd g
  obtain⟨rv,sv⟩:=opd_rep hE h hv
  obtain⟨vs,f2,h2,g,h3⟩:=goes_opdV hE h xs _ p f1 g
  exact⟨v::vs,f2,⟨rv,sv,h2⟩,g,fun l hl=>h1 l (h3 l hl)⟩
theorem vals_ok{P:Program} {w0:World} {I:Own} {nt:Nat} {U:Nat->Prop} {M:Mp} {st:St} {a:Act} {w:World}:∀ (vs us:List Vl) (xs:List Value) (ds:List (Nat×Bx)) (st1:St),Rel P w0 I nt U M st1 a w ->
  ValsR st vs us ds->nodupB ds=true->ValsIn P w (own st1 M) M U vs xs->(∀ id,(ds.any fun p=>Nat.beq p.1 id)=true->look st1.bx id=look st.bx id) ->
  Rel P w0 I nt U M { st1 with bx:=putL ds st1.bx } a w/\ValsIn P w (own { st1 with bx:=putL ds st1.bx } M) M U us xs/\(∀ u∈us,u.sh.plain=true)/\(∀ b o,own { st1 with bx:=putL ds st1.bx } M b o->own st1 M b o) /\
   AllDead ds/\(∀ id,(ds.any fun p=>Nat.beq p.1 id)=true->∃ e l s,look st.bx id=some (.rw ⟨.ms e,l,s⟩))
 | [],[],xs,ds,st1,h,hr,hn,hv,hst=>by
  have:ds=[]:=hr
  subst this
  exact⟨h,hv,fun u hu=>by simp at hu,fun _ _ h=>h,fun p hp=>by simp at hp,fun id h=>by simp at h⟩
 | v::vs,u::us,x::xs,ds,st1,h,⟨d,ds',hds,hav,hr⟩,hn,⟨rv,sv,hv⟩,hst=>by
  rcases hav with⟨hp,rfl,rfl⟩ | ⟨e,y,id,l,s,rfl,hl,rfl,rfl⟩
  ·rw[List.nil_append] at hds
   subst hds
   obtain⟨k1,k2,k3,k4,k5,k6⟩:=vals_ok vs us xs ds st1 h hr hn hv hst
   refine⟨k1,⟨rv.mono P (Ext.refl _ _) (fun b o _=>k4 b o) (ShAg.refl _ _),sv,k2⟩,fun z hz=>?_,k4,k5,k6⟩
   rcases List.mem_cons.1 hz with rfl | hz
   ·exact hp
   ·exact k3 z hz
  ·subst hds
   simp only[List.singleton_append] at hn hst ⊢
   simp only[nodupB,Bool.and_eq_true,Bool.not_eq_true'] at hn
   have hid1:look st1.bx id=some (.rw ⟨.ms e,l,s⟩):=(hst id (by simp)).trans hl
   have hfr:=h.freeze hid1 rv
   obtain⟨k1,k2,k3,k4,k5,k6⟩:=vals_ok vs us xs ds' { st1 with bx:=(id,.dead)::st1.bx } (h.kill id) hr hn.2 (hv.mono fun b o=>own_kill) (fun id' hi=>by
    have:id≠id':=fun e'=>by subst e';rw[hn.1] at hi;cases hi
    show look ((id,Bx.dead)::st1.bx) id'=_
    rw[look_cons,if_neg this]
    exact hst id' (by simp [hi]))
   refine⟨k1,⟨hfr.mono P (Ext.refl _ _) (fun b o _=>k4 b o) (ShAg.refl _ _),trivial,k2⟩,fun z hz=>?_,fun b o ho=>own_kill (k4 b o ho),fun q hq=>?_,fun id' hi=>?_⟩
   ·rcases List.mem_cons.1 hz with rfl | hz
    ·rfl
    ·exact k3 z hz
   ·rcases List.mem_cons.1 hq with rfl | hq
    ·rfl
    ·exact k5 q hq
   ·simp only[List.any_cons,Bool.or_eq_true] at hi
    rcases hi with hi | hi
    ·have:=Nat.eq_of_beq_eq_true hi
     subst this
     exact⟨e,l,s,hl⟩
    ·exact k6 id' hi
 | [],_::_,_,_,_,_,h,_,_,_=>h.elim
 | _::_,[],_,_,_,_,h,_,_,_=>h.elim
 | _::_,_::_,[],_,_,_,_,_,h,_=>h.elim
theorem matchShs_ext:∀ (ss:List Sh) (vs:List Vl) {m m':Mt},matchShs ss vs m=some m'->MtExt m m'
 | [],vs,m,m',e=>by simp only[matchShs,Option.some.injEq] at e;subst e;exact MtExt.refl _
 | s::ss,v::vs,m,m',e=>by
  simp only[matchShs] at e
  split at e
  ·rename_i m1 h1
   exact(matchSh_ext _ _ h1).trans (matchShs_ext ss vs e)
  ·cases e
 | _::_,[],_,_,e=>by cases e
theorem args_ok{P:Program} {w:World} {O O':Own} {M Mc:Mp} {U:Nat->Prop} (hO:∀ b o,b<w.heap.size->O' b o->O b o):∀ (A:Ty) (ss:List Sh) (us:List Vl) (xs:List Value) {x:A.D} {m m0 mf:Mt},
  wfA A=true->tupV A us=some x->matchShs ss us m=some m0->MtExt m0 mf->MtOk M Mc mf->ValsIn P w O M U us xs->ArgsOk P w O' Mc A x ss xs
 | .unit,ss,us,xs,x,m,m0,mf,hw,ht,hm,he,hk,hv=>by
  cases us with
  | cons u us=>cases ht
  | nil =>
   cases xs with
   | nil=>trivial
   | cons y ys=>exact hv.elim
 | .tu a b,ss,us,xs,x,m,m0,mf,hw,ht,hm,he,hk,hv=>by
  cases us with
  | nil=>cases ht
  | cons u us =>
   cases xs with
   | nil=>exact hv.elim
   | cons y ys =>
    obtain⟨rv,sv,hv⟩:=hv
    simp only[wfA,Bool.and_eq_true] at hw
    have hta:a.tup=false:=by
     have:=hw.1
     cases a<;>first | rfl | cases this
    simp only[tupV] at ht
    split at ht
    ·rename_i z hz
     split at ht
     ·rename_i zs hzs
      cases ht
      obtain⟨hp,hz⟩:=castV_eq hz
      obtain⟨tu,vu,su⟩:=u
      obtain⟨e2,rfl⟩:=castTo_eq hz
      dsimp only at e2 hp
      subst e2
      have r1:=(repV_of hta).1 rv
      cases ss with
      | nil =>
       simp only[matchShs,Option.some.injEq] at hm
       subst hm
       refine⟨(repV_of hta).2 (r1.imp fun cs hc=>(hc.forget _ hp Mc).mono P _ (Ext.refl _ _) hO trivial),hta,?_⟩
       exact args_ok hO b [] us ys hw.2 hzs rfl he hk hv
      | cons s ss =>
       simp only[matchShs] at hm
       split at hm
       ·rename_i m1 h1
        refine⟨(repV_of hta).2 (r1.imp fun cs hc=>matchSh_rep hO s _ su h1 (hk.anti ((matchShs_ext _ _ hm).trans he)) hc),hta,?_⟩
        exact args_ok hO b ss us ys hw.2 hzs hm he hk hv
       ·cases hm
     ·cases ht
    ·cases ht
 | .int _,_,_,_,_,_,_,_,hw,_,_,_,_,_=>by cases hw
 | .bool,_,_,_,_,_,_,_,hw,_,_,_,_,_=>by cases hw
 | .str,_,_,_,_,_,_,_,hw,_,_,_,_,_=>by cases hw
 | .ptr,_,_,_,_,_,_,_,hw,_,_,_,_,_=>by cases hw
 | .sl _,_,_,_,_,_,_,_,hw,_,_,_,_,_=>by cases hw
 | .ms _,_,_,_,_,_,_,_,hw,_,_,_,_,_=>by cases hw
 | .pr _ _,_,_,_,_,_,_,_,hw,_,_,_,_,_=>by cases hw
 | .fn _ _,_,_,_,_,_,_,_,hw,_,_,_,_,_=>by cases hw
 | .rref _,_,_,_,_,_,_,_,hw,_,_,_,_,_=>by cases hw
 | .eref,_,_,_,_,_,_,_,hw,_,_,_,_,_=>by cases hw
 | .mh,_,_,_,_,_,_,_,hw,_,_,_,_,_=>by cases hw
 | .nx,_,_,_,_,_,_,_,hw,_,_,_,_,_=>by cases hw
end Go.VX
/- VX, part 31: calls of function values. -/
set_option linter.unusedVariables false
set_option linter.unusedSimpArgs false
namespace Go.VX
theorem StepOk.enter{P:Program} {o:Oper} {a:Act} {w w':World} {R:Value->World->Prop} {f:FuncId} {args:Array Value} (hr:(execOp a.eval o).run P w=.ok (.enter f args) w')
  (h:Calls P f args w' fun e w''=>∃ v,e=.returned v/\R v w''):StepOk P o a w R:=by
 unfold StepOk;rw[hr];exact h
theorem tupV_rep{P:Program} {w:World} {O:Own} {M M':Mp} {U:Nat->Prop}:∀ (A:Ty) (us:List Vl) (xs:List Value) {x:A.D},wfA A=true->tupV A us=some x->ValsIn P w O M U us xs->RepC P A w O M' x .o xs
 | .unit,us,xs,x,hw,ht,hv=>by
  cases us with
  | cons u us=>cases ht
  | nil =>
   cases xs with
   | nil=>rfl
   | cons y ys=>exact hv.elim
 | .tu a b,us,xs,x,hw,ht,hv=>by
  cases us with
  | nil=>cases ht
  | cons u us =>
   cases xs with
   | nil=>exact hv.elim
   | cons y ys =>
    obtain⟨rv,sv,hv⟩:=hv
    simp only[wfA,Bool.and_eq_true] at hw
    have hta:a.tup=false:=by
     have:=hw.1
     cases a<;>first | rfl | cases this
    simp only[tupV] at ht
    split at ht
    ·rename_i z hz
     split at ht
     ·rename_i zs hzs
      cases ht
      obtain⟨hp,hz⟩:=castV_eq hz
      obtain⟨tu,vu,su⟩:=u
      obtain⟨e2,rfl⟩:=castTo_eq hz
      dsimp only at e2 hp
      subst e2
      have r1:=(repV_of hta).1 rv
      exact⟨y,ys,rfl,hta,r1.imp fun cs hc=>hc.forget _ hp M',tupV_rep b us ys hw.2 hzs hv⟩
     ·cases ht
    ·cases ht
 | .int _,_,_,_,hw,_,_=>by cases hw
 | .bool,_,_,_,hw,_,_=>by cases hw
 | .str,_,_,_,hw,_,_=>by cases hw
 | .ptr,_,_,_,hw,_,_=>by cases hw
 | .sl _,_,_,_,hw,_,_=>by cases hw
 | .ms _,_,_,_,hw,_,_=>by cases hw
 | .pr _ _,_,_,_,hw,_,_=>by cases hw
 | .fn _ _,_,_,_,hw,_,_=>by cases hw
 | .rref _,_,_,_,hw,_,_=>by cases hw
 | .eref,_,_,_,hw,_,_=>by cases hw
 | .mh,_,_,_,hw,_,_=>by cases hw
 | .nx,_,_,_,hw,_,_=>by cases hw
theorem exec_fn{P:Program} {o:Oper} {a:Act} {w:World} {c:Call} {x:Operand} (ho:o.op=.call c) (hc:c.callee=.value x) {f:FuncId} {caps:Array Value} (hx:a.eval x=.func (.func f) #[] caps) {fn:Func}
  (h1 : P.funcs[f]? = some fn) (h2 : (fn.name == "runtime.NumGoroutine") = false) (h3 : fn.body.isNone = false) : (execOp a.eval o).run P w = .ok (.enter f (c.args.map a.eval ++ caps)) w := by
 simp only[execOp,ho,resolve,hc,hx,Deferred.ofValue,Sem.run_bind,Sem.run_pure,Result.andThen_ok,invoke,callFunc,run_program,h1,h2,h3,Bool.false_eq_true,if_false,Array.empty_append]
theorem zip_eval{α β γ δ:Type} (g:α->γ) (h:β->δ):∀ (l1:List α) (l2:List β),l1.length=l2.length->(((l1.zip l2).map fun x=>(x.1,h x.2)).map fun x=>g x.1)=l1.map g
 | [],[],_=>rfl
 | a::l1,b::l2,e=>by simp only[List.zip_cons_cons,List.map_cons];rw[zip_eval g h l1 l2 (by simpa using e)]
 | [],_::_,e=>by simp at e
 | _::_,[],e=>by simp at e
theorem fnRet{P:Program} {B:Ty} {w:World} {F:Own} {M:Mp} {y:B.D} {v:Value}
  (h:RetRep B (fun c=>RepC P B w F default y .o c) v):RepV P B w F M y .o v:=by
 cases B with
 | tu a b =>
  obtain⟨vs,e,r⟩:=h
  exact⟨vs,e,RepC.mono P _ r (Ext.refl _ _) (fun _ _ _ h=>h) trivial⟩
 | nx=>exact h
 | _=>exact(repV_of rfl).2 (ValOf.imp (R:=fun c=>RepC P _ w F default y .o c) h fun _ hc=>RepC.mono P _ hc (Ext.refl _ _) (fun _ _ _ h=>h) trivial)
theorem exec_fn1{P:Program} {o:Oper} {a:Act} {w:World} {c:Call} {x:Operand} (ho:o.op=.call c) (hc:c.callee=.value x) {f:FuncId} {y:Value} (hx:a.eval x=.func (.func f) #[y] #[]) {fn:Func}
  (h1 : P.funcs[f]? = some fn) (h2 : (fn.name == "runtime.NumGoroutine") = false) (h3 : fn.body.isNone = false) : (execOp a.eval o).run P w = .ok (.enter f (#[y] ++ c.args.map a.eval ++ #[])) w := by
 simp only[execOp,ho,resolve,hc,hx,Deferred.ofValue,Sem.run_bind,Sem.run_pure,Result.andThen_ok,invoke,callFunc,run_program,h1,h2,h3,Bool.false_eq_true,if_false]
end Go.VX
/- VX, part 32: a callee's variables. -/
set_option linter.unusedVariables false
set_option linter.unusedSimpArgs false
namespace Go.VX
def BoxIn(st:St) (m:Mt) (i:Nat) (b:BoxS) (x:b.ty.D):Prop :=
  ∃ id p off cv v mi mi',look m.bm i=some (id,p,off)/\(look st.bx id=some (.rw cv)\/(b.sout=none/\∃ z,look st.bx id=some (.ro z cv)))/\getP cv p=some v/\offP cv.ty p=some off/\castTo b.ty v=some x /\
    matchSh b.sin v.sh mi=some mi'/\MtExt mi' m
theorem BoxIn.mono{st:St} {m m':Mt} {i:Nat} {b:BoxS} {x:b.ty.D} (h:BoxIn st m i b x) (k:MtExt m m'):BoxIn st m' i b x:=by
  obtain⟨id,p,off,cv,v,mi,mi',h1,h2,h3,h4,h5,h6,h7⟩:=h
  exact⟨id,p,off,cv,v,mi,mi',k.bm _ _ h1,h2,h3,h4,h5,h6,h7.trans k⟩
def BoxesIn(st:St) (m:Mt):(bs:List BoxS)->Nat->(boxT bs).D->Prop
  | [],_,_=>True
  | b::bs,i,x=>BoxIn st m i b x.1/\BoxesIn st m bs (i+1) x.2
structure MtInj (m:Mt):Prop where
  bm:∀ k k' id q q',look m.bm k=some (id,q)->look m.bm k'=some (id,q')->k=k'
  tm:∀ j j' t,look m.tm j=some (some t)->look m.tm j'=some (some t)->j=j'
theorem MtInj.nil:MtInj {}:=⟨fun k k' id q q' h _=>(by cases h),fun j j' t h _=>(by cases h)⟩
theorem memB_look:∀ {l:List (Nat×Nat×List Nat×Nat)} {id k:Nat} {q:List Nat×Nat},memB l id=false->look l k≠some (id,q)
  | (a,i,r)::l,id,k,q,h,e=>by
    simp only[memB] at h
    split at h
    · cases h
    · rename_i hb
      rw[look_cons] at e
      split at e
      · cases e
        simp at hb
      · exact memB_look h e
  | [],_,_,_,_,e=>by cases e
theorem memT_look:∀ {l:List (Nat×Option Nat)} {t j:Nat},memT l t=false->look l j≠some (some t)
  | (a,some i)::l,t,j,h,e=>by
    simp only[memT] at h
    split at h
    · cases h
    · rename_i hb
      rw[look_cons] at e
      split at e
      · cases e
        simp at hb
      · exact memT_look h e
  | (a,none)::l,t,j,h,e=>by
    simp only[memT] at h
    rw[look_cons] at e
    split at e
    · cases e
    · exact memT_look h e
  | [],_,_,_,e=>by cases e
theorem matchSh_inj:∀ (s h:Sh) {m m':Mt},matchSh s h m=some m'->MtInj m->MtInj m':=by
  intro s
  induction s with
  | pr a b iha ihb =>
    intro h m m' e hi
    rcases matchSh_cases e with⟨h1,_⟩ | ⟨h1,_⟩ | ⟨h1,_⟩ | ⟨_,_,_,_,h1,_⟩ | ⟨_,_,h1,_⟩ | ⟨_,h1,_⟩ | ⟨a',b',c,d,m1,h1,h2,h3,h4⟩<;>first | (cases h1;done) | skip
    cases h1
    exact ihb d h4 (iha c h3 hi)
  | _ =>
    intro h m m' e hi
    rcases matchSh_cases e with⟨h1,_,rfl⟩ | ⟨h1,_,rfl⟩ | ⟨h1,_,rfl⟩ | ⟨_,_,_,_,h1,_,_,rfl | ⟨h2,h3,rfl⟩⟩ | ⟨_,_,h1,_,h2,h3,rfl⟩ | ⟨_,h1,_,h2,rfl⟩ | ⟨a',b',c,d,m1,h1,h2,h3,h4⟩ <;>
      first
      | exact hi
      | (cases h1;done)
      | (refine⟨fun k k' id q q' e1 e2=>?_,hi.tm⟩
         dsimp only at e1 e2
         rw[look_cons] at e1 e2
         split at e1<;>split at e2
         · omega
         · cases e1;exact(memB_look h3 e2).elim
         · cases e2;exact(memB_look h3 e1).elim
         · exact hi.bm k k' id q q' e1 e2)
      | (refine⟨hi.bm,fun j j' t e1 e2=>?_⟩
         dsimp only at e1 e2
         rw[look_cons] at e1 e2
         split at e1<;>split at e2
         · omega
         · cases e1;exact(memT_look h3 e2).elim
         · cases e2;exact(memT_look h3 e1).elim
         · exact hi.tm j j' t e1 e2)
      | (refine⟨hi.bm,fun j j' t e1 e2=>?_⟩
         dsimp only at e1 e2
         rw[look_cons] at e1 e2
         split at e1<;>split at e2<;>first | omega | (cases e1;done) | (cases e2;done) | exact hi.tm j j' t e1 e2)
theorem matchShs_inj:∀ (ss:List Sh) (vs:List Vl) {m m':Mt},matchShs ss vs m=some m'->MtInj m->MtInj m'
  | [],vs,m,m',e,hi=>by simp only[matchShs,Option.some.injEq] at e;subst e;exact hi
  | s::ss,v::vs,m,m',e,hi=>by
    simp only[matchShs] at e
    split at e
    · rename_i m1 h1
      exact matchShs_inj ss vs e (matchSh_inj _ _ h1 hi)
    · cases e
  | _::_,[],_,_,e,_=>by cases e
def KeysLt(nb:Nat) (m:Mt):Prop:=∀ k q,look m.bm k=some q->k<nb
theorem matchSh_keys{nb n:Nat}:∀ (s h:Sh) {m m':Mt},matchSh s h m=some m'->shInB nb n s=true->KeysLt nb m->KeysLt nb m':=by
  intro s
  induction s with
  | pr a b iha ihb =>
    intro h m m' e hs hk
    simp only[shInB,Bool.and_eq_true] at hs
    rcases matchSh_cases e with⟨h1,_⟩ | ⟨h1,_⟩ | ⟨h1,_⟩ | ⟨_,_,_,_,h1,_⟩ | ⟨_,_,h1,_⟩ | ⟨_,h1,_⟩ | ⟨a',b',c,d,m1,h1,h2,h3,h4⟩<;>first | (cases h1;done) | skip
    cases h1
    exact ihb d h4 hs.2 (iha c h3 hs.1 hk)
  | _ =>
    intro h m m' e hs hk
    rcases matchSh_cases e with⟨h1,_,rfl⟩ | ⟨h1,_,rfl⟩ | ⟨h1,_,rfl⟩ | ⟨_,_,_,_,h1,_,_,rfl | ⟨h2,h3,rfl⟩⟩ | ⟨_,_,h1,_,h2,h3,rfl⟩ | ⟨_,h1,_,h2,rfl⟩ | ⟨a',b',c,d,m1,h1,h2,h3,h4⟩ <;>
      first
      | exact hk
      | (cases h1;done)
      | (cases h1
         intro k q hkq
         dsimp only at hkq
         rw[look_cons] at hkq
         split at hkq
         · rename_i e;subst e;exact Nat.le_of_ble_eq_true hs
         · exact hk k q hkq)
theorem matchShs_keys{nb n:Nat}:∀ (ss:List Sh) (vs:List Vl) {m m':Mt},matchShs ss vs m=some m'->(∀ s∈ss,shInB nb n s=true)->KeysLt nb m->KeysLt nb m'
  | [],vs,m,m',e,_,hi=>by simp only[matchShs,Option.some.injEq] at e;subst e;exact hi
  | s::ss,v::vs,m,m',e,hs,hi=>by
    simp only[matchShs] at e
    split at e
    · rename_i m1 h1
      exact matchShs_keys ss vs e (fun s' h'=>hs s' (by simp [h'])) (matchSh_keys _ _ h1 (hs s (by simp)) hi)
    · cases e
  | _::_,[],_,_,e,_,_=>by cases e
theorem goes_boxesIn{st:St} {ω:Bool} {nb n:Nat}:∀ (bs:List BoxS) (i:Nat) (m0:Mt) (k:Mt->(boxT bs).D->RM) (p:Patch) (f:List Loc),Goes st ω (boxesIn bs i m0 k) p f->MtInj m0->(∀ b∈bs,shInB nb n b.sin=true)->KeysLt nb m0 ->
    ∃ m x f',MtExt m0 m/\MtInj m/\KeysLt nb m/\BoxesIn st m bs i x/\Goes st ω (k m x) p f'
  | [],i,m0,k,p,f,g,hi,hs,hk=>⟨m0,(),f,MtExt.refl _,hi,hk,trivial,g⟩
  | b::bs,i,m0,k,p,f,g,hi,hs,hk=>by
    unfold boxesIn at g
    split at g
    · rename_i id q off hq
      dsimp only at g
      have hcore:∀ (cv:Vl) (f1:List Loc),(look st.bx id=some (.rw cv)\/(b.sout=none/\∃ z,look st.bx id=some (.ro z cv)))->Goes st ω (match getP cv q with
          | some v=>match decide (offP cv.ty q=some off),castTo b.ty v,matchSh b.sin v.sh m0 with
            | true,some x,some m1=>boxesIn bs (i+1) m1 fun m2 y=>k m2 (x,y)
            | _,_,_=>.fail
          | none=>.fail) p f1->∃ m x f',MtExt m0 m/\MtInj m/\KeysLt nb m/\BoxesIn st m (b::bs) i x/\Goes st ω (k m x) p f':=fun cv f1 hcv g=>by
        split at g
        · rename_i v hv
          split at g
          · rename_i x m1 h1 h2 h3
            replace h1:=of_decide_eq_true h1
            obtain⟨m,y,f2,e1,e2,ek,e3,e4⟩:=goes_boxesIn bs (i+1) m1 _ p f1 g (matchSh_inj _ _ h3 hi) (fun b' hb'=>hs b' (by simp [hb'])) (matchSh_keys _ _ h3 (hs b (by simp)) hk)
            have e0:=(matchSh_ext _ _ h3).trans e1
            exact⟨m,(x,y),f2,e0,e2,ek,⟨⟨id,q,off,cv,v,m0,m1,e0.bm _ _ hq,hcv,hv,h1,h2,h3,e1⟩,e3⟩,e4⟩
          · cases g
        · cases g
      split at g
      · obtain⟨c,f',hc,g,_⟩:=goes_rdW g
        exact hcore c f' (.inl hc) g
      · rename_i hso
        obtain⟨c,f',hc,g,_⟩:=goes_rdB g
        exact hcore c f' (hc.imp (fun h=>h) fun h=>⟨hso,h⟩) g
    · cases g
end Go.VX
/- VX, part 33: a callee's start. -/
set_option linter.unusedVariables false
set_option linter.unusedSimpArgs false
namespace Go.VX
theorem initBx_look{st:St} {m:Mt}:∀ (bs:List BoxS) (x:(boxT bs).D) (i n:Nat) (y:Bx),look (initBx bs x i) n=some y->BoxesIn st m bs i x ->
  i<=n/\n<i+bs.length/\∃ (b:BoxS) (xv:b.ty.D),b∈bs/\BoxIn st m n b xv/\((∃ s,b.sout=some s/\y=.rw ⟨b.ty,xv,b.sin⟩)\/(b.sout=none/\y=.ro false ⟨b.ty,xv,b.sin⟩))
 | [],x,i,n,y,h,_=>by cases h
 | b::bs,x,i,n,y,h,⟨h1,h2⟩=>by
  rw[initBx,look_cons] at h
  split at h
  ·rename_i e
   subst e
   refine⟨Nat.le_refl _,by simp,b,x.1,by simp,h1,?_⟩
   cases hs:b.sout with
   | some s=>rw[hs] at h;cases h;exact .inl ⟨s,rfl,rfl⟩
   | none=>rw[hs] at h;cases h;exact .inr ⟨rfl,rfl⟩
  ·obtain⟨k1,k2,b',xv,k3,k4,k5⟩:=initBx_look bs x.2 (i+1) n y h h2
   exact⟨by omega,by simp;omega,b',xv,by simp [k3],k4,k5⟩
def McOf(M:Mp) (m:Mt) (F:Own):Mp where
 box:=fun k=>match look m.bm k with
  | some (id,_,off)=>((M.box id).1,(M.box id).2+off)
  | none=>(0,0)
 tok:=fun j=>match look m.tm j with
  | some (some t)=>M.tok t
  | _=>(none,0,0,0)
 row:=fun _=>(none,0,0)
 fr:=F
theorem McOf_ok{M:Mp} {m:Mt} {F:Own}:MtOk M (McOf M m F) m :=
 ⟨fun k id p off h=>by simp [McOf,h],fun j t h=>by simp [McOf,h],fun j h=>by simp [McOf,h]⟩
theorem conArg_conIn:∀ (A:Ty) (bs:List BoxS) (a:A.D) (s:(boxT bs).D),conArg A bs (conIn A bs a s)=(a,s)
 | _,[],_,_=>rfl
 | _,_::_,_,_=>rfl
theorem look_true{l:List Nat} {n:Nat} {b:Bool} (h:look (l.map (·,true)) n=some b):n∈l/\b=true:=by
 induction l with
 | nil=>cases h
 | cons a l ih =>
  rw[List.map_cons,look_cons] at h
  split at h
  ·rename_i e;cases h;exact⟨by simp [e],rfl⟩
  ·exact⟨by simp [(ih h).1],(ih h).2⟩
structure Passed (st st1:St) (m:Mt):Prop where
 rw:∀ id cv,isMs cv.ty=false->look st.bx id=some (.rw cv)->look st1.bx id=some (.rw cv)
 ro:∀ id z cv,look st.bx id=some (.ro z cv)->look st1.bx id=some (.ro z cv)
 tk:∀ j t,look m.tm j=some (some t)->look st1.tk t=some true
theorem std_ms{t:Ty} (h:t.std=true):isMs t=false/\t.tup=false:=by cases t<;>simp_all [Ty.std,isMs,Ty.tup]
theorem castTo_vl{t:Ty} {v:Vl} {x:t.D} (h:castTo t v=some x):v=⟨t,x,v.sh⟩:=by
 obtain⟨e,rfl⟩:=castTo_eq h
 obtain⟨tv,vv,sv⟩:=v
 dsimp only at e
 subst e
 rfl
theorem boxIn_rep{P:Program} {w0:World} {I:Own} {nt:Nat} {U:Nat->Prop} {M:Mp} {st st1:St} {a:Act} {w:World} (h:Rel P w0 I nt U M st1 a w) {m:Mt} (hp:Passed st st1 m) {n:Nat} {b:BoxS} {xv:b.ty.D} (hstd:b.ty.std=true)
  (hb:BoxIn st m n b xv):∃ (id:Nat) (q:List Nat) (off:Nat) (cv:Vl) (s:Sh) (mi mi':Mt),look m.bm n=some (id,q,off)/\(look st1.bx id=some (.rw cv)\/(b.sout=none/\∃ z,look st1.bx id=some (.ro z cv)))/\isMs cv.ty=false/\off+b.ty.size<=cv.ty.size /\
   getP cv q=some ⟨b.ty,xv,s⟩/\offP cv.ty q=some off/\matchSh b.sin s mi=some mi'/\MtExt mi' m/\∃ cs,RepC P b.ty w (own st1 M) M xv s cs/\∀ j u,cs[j]?=some u->w.cell? ⟨(M.box id).1,(M.box id).2+off+j,none⟩=some u:=by
 obtain⟨id,q,off,cv,v,mi,mi',h1,h2,h3,h4,h5,h6,h7⟩:=hb
 have hv:=castTo_vl h5
 generalize v.sh=s at hv h6
 subst hv
 have hms:isMs cv.ty=false:=msP h3 (ms_std hstd)
 have h2':look st1.bx id=some (.rw cv)\/(b.sout=none/\∃ z,look st1.bx id=some (.ro z cv)):=h2.imp (hp.rw id cv hms) (fun k=>⟨k.1,k.2.imp fun z hz=>hp.ro id z cv hz⟩)
 obtain⟨ht,cs,r,k⟩:=box_cells h (h2'.imp (fun h=>h) (fun h=>h.2)) hms
 obtain⟨n',g1,g2,g3,g4⟩:=getP_rep q r ht h3
 rw[h4] at g1
 cases g1
 refine⟨id,q,off,cv,s,mi,mi',h1,h2',hms,by rw[← r.len ht];exact g2,h3,h4,h6,h7,_,g4,fun j u hj=>?_⟩
 have:=k _ _ (drop_take_get hj)
 rwa [← Nat.add_assoc] at this
theorem reg_callee{P:Program} {w0:World} {I:Own} {nt:Nat} {U:Nat->Prop} {M:Mp} {st st1:St} {a:Act} {w:World} (h:Rel P w0 I nt U M st1 a w) {m:Mt} (hp:Passed st st1 m) {c:Con} {x:c.I.D} (hstd:∀ b∈c.bs,b.ty.std=true)
  (hb:BoxesIn st m c.bs 0 (conArg c.A c.bs x).2) {F:Own} {l:Loc} {b o:Nat} (hr:reg (inSt c x) (McOf M m F) l b o) (hl:l≠.s 0) :
  (∃ n id q v,l=.b n/\look m.bm n=some (id,q)/\look st1.bx id=some (.rw v)/\reg st1 M (.b id) b o)\/(∃ j t,l=.t j/\look m.tm j=some (some t)/\reg st1 M (.t t) b o):=by
 cases l with
 | s n =>
  cases n with
  | zero=>exact(hl rfl).elim
  | succ n=>exact hr.elim
 | b n =>
  left
  obtain⟨v,h1,h2⟩:=hr
  obtain⟨_,_,bb,xv,k3,k4,k5⟩:=initBx_look c.bs _ 0 n _ h1 hb
  rcases k5 with⟨s,k5,k6⟩ | ⟨k5,k6⟩
  ·cases k6
   obtain⟨id,q,off,cv,s',mi,mi',e1,e2,e3,e4,_⟩:=boxIn_rep h hp (hstd bb k3) k4
   have hcv:look st1.bx id=some (.rw cv):=by
    rcases e2 with e2 | ⟨e2,_⟩
    ·exact e2
    ·rw[k5] at e2;cases e2
   rw[inBox.plain (std_ms (hstd bb k3)).1] at h2
   have hbox:(McOf M m F).box n=((M.box id).1,(M.box id).2+off):=McOf_ok.bm _ _ _ _ e1
   rw[hbox] at h2
   dsimp only at h2
   exact⟨n,id,(q,off),cv,rfl,e1,hcv,cv,hcv,(inBox.plain e3).2 ⟨h2.1,by omega,by omega⟩⟩
  ·cases k6
 | t j =>
  right
  obtain⟨h1,q,h2,h3,h4⟩:=hr
  cases hj:look m.tm j with
  | none=>simp [McOf,hj] at h2
  | some r =>
   cases r with
   | none=>simp [McOf,hj] at h2
   | some t =>
    have ht:(McOf M m F).tok j=M.tok t:=McOf_ok.tm _ _ hj
    rw[ht] at h2 h3 h4
    exact⟨j,t,rfl,hj,hp.tk j t hj,q,h2,h3,h4⟩
end Go.VX
/- VX, part 34: a callee's start, whole. -/
set_option linter.unusedVariables false
set_option linter.unusedSimpArgs false
namespace Go.VX
theorem shInB_in{nb n:Nat} (hn:nb<=n):∀ s:Sh,shInB nb n s=true->ShIn (·<n) s
 | .tok k,h=>Nat.lt_of_lt_of_le (Nat.le_of_ble_eq_true h) (Nat.le_refl _)
 | .mref k,h=>Nat.lt_of_lt_of_le (Nat.le_of_ble_eq_true h) (Nat.le_refl _)
 | .box k _ _,h=>Nat.lt_of_lt_of_le (Nat.le_of_ble_eq_true h) hn
 | .elem k _ _ _ _ _,h=>Nat.lt_of_lt_of_le (Nat.le_of_ble_eq_true h) (Nat.le_refl _)
 | .pr a b,h=>by
  simp only[shInB,Bool.and_eq_true] at h
  exact⟨shInB_in hn a h.1,shInB_in hn b h.2⟩
 | .o,_ | .nilp,_ | .nils,_=>trivial
structure WfC (c:Con):Prop where
 A:wfA c.A=true
 B:c.B.retOk=true
 ash:∀ s∈c.ash,shInB c.bs.length c.lo s=true
 le:c.bs.length<=c.lo
 std:∀ b∈c.bs,b.ty.std=true
 sin:∀ b∈c.bs,shInB c.bs.length c.lo b.sin=true
 nodup:nodupN (upTo c.bs.length 0++(c.nb.map (·.1)++mkeys c.B c.bsh))=true
 lt:∀ k∈c.nb.map (·.1)++mkeys c.B c.bsh,k<c.fr
 out:wfO c=true
theorem wfC_spec{c:Con} (h:wfC c=true):WfC c:=by
 simp only[wfC,Bool.and_eq_true,List.all_eq_true] at h
 obtain⟨⟨⟨⟨⟨⟨⟨h1,h2⟩,h3⟩,h4⟩,h5⟩,h6⟩,h7⟩,h8⟩:=h
 exact⟨h1,h2,h3,Nat.le_of_ble_eq_true h4,fun b hb=>(h5 b hb).1,fun b hb=>(h5 b hb).2,h6,fun k hk=>Nat.le_of_ble_eq_true (h7 k hk),h8⟩
def frOf(st1:St) (M:Mp) (m:Mt) (c:Con) (x:c.I.D):Own:=fun b o=>own st1 M b o/\¬ ownN (inSt c x) (McOf M m noOwn) b o
theorem ownN_fr{st:St} {M M':Mp} (hb:M'.box=M.box) (ht:M'.tok=M.tok) (hr:M'.row=M.row):ownN st M'=ownN st M:=by
 funext b o
 unfold ownN
 refine propext ⟨fun⟨l,h0,h⟩=>⟨l,h0,?_⟩,fun⟨l,h0,h⟩=>⟨l,h0,?_⟩⟩
 ·rcases l with(_ | n) | n | n
  ·exact(h0 rfl).elim
  ·exact h.elim
  ·obtain⟨v,h1,h2⟩:=h
   exact⟨v,h1,(inBox_congr (by rw[hb]) (by rw[hr])).1 h2⟩
  ·exact⟨h.1,(inTok_congr (by rw[ht])).1 h.2⟩
 ·rcases l with(_ | n) | n | n
  ·exact(h0 rfl).elim
  ·exact h.elim
  ·obtain⟨v,h1,h2⟩:=h
   exact⟨v,h1,(inBox_congr (by rw[hb]) (by rw[hr])).2 h2⟩
  ·exact⟨h.1,(inTok_congr (by rw[ht])).2 h.2⟩
theorem ownN_McOf{M:Mp} {m:Mt} {st:St} (F:Own):ownN st (McOf M m F)=ownN st (McOf M m noOwn):=ownN_fr rfl rfl rfl
theorem own_callee{P:Program} {w0:World} {I:Own} {nt:Nat} {U:Nat->Prop} {M:Mp} {st st1:St} {a:Act} {w:World} (h:Rel P w0 I nt U M st1 a w) {m:Mt} (hp:Passed st st1 m) {c:Con} {x:c.I.D} (hstd:∀ b∈c.bs,b.ty.std=true)
  (hb:BoxesIn st m c.bs 0 (conArg c.A c.bs x).2) {b o:Nat} (hr:own (inSt c x) (McOf M m (frOf st1 M m c x)) b o):own st1 M b o:=by
 obtain⟨l,hl⟩:=hr
 by_cases e:l=.s 0
 ·subst e;exact hl.1
 ·rcases reg_callee h hp hstd hb hl e with⟨n,id,q,v,_,_,_,k⟩ | ⟨j,t,_,_,k⟩
  ·exact⟨_,k⟩
  ·exact⟨_,k⟩
theorem ownN_callee{P:Program} {w0:World} {I:Own} {nt:Nat} {U:Nat->Prop} {M:Mp} {st st1:St} {a:Act} {w:World} (h:Rel P w0 I nt U M st1 a w) {m:Mt} (hp:Passed st st1 m) {c:Con} {x:c.I.D} (hstd:∀ b∈c.bs,b.ty.std=true)
  (hb:BoxesIn st m c.bs 0 (conArg c.A c.bs x).2) {F:Own} {b o:Nat} (hr:ownN (inSt c x) (McOf M m F) b o):ownN st1 M b o:=by
 obtain⟨l,h0,hl⟩:=hr
 rcases reg_callee h hp hstd hb hl h0 with⟨n,id,q,v,_,_,_,k⟩ | ⟨j,t,_,_,k⟩
 ·exact⟨_,fun e=>(by cases e),k⟩
 ·exact⟨_,fun e=>(by cases e),k⟩
theorem callee_start{P:Program} {w0:World} {I:Own} {nt:Nat} {U:Nat->Prop} {M:Mp} {st st1:St} {a:Act} {w:World} (h:Rel P w0 I nt U M st1 a w) {m:Mt} (hp:Passed st st1 m) (hi:MtInj m) {c:Con} (hw:WfC c) {x:c.I.D}
  (hb:BoxesIn st m c.bs 0 (conArg c.A c.bs x).2) {xs:List Value} (hargs:ArgsOk P w (own (inSt c x) (McOf M m (frOf st1 M m c x))) (McOf M m (frOf st1 M m c x)) c.A (conArg c.A c.bs x).1 c.ash xs) :
  Rel P w (ownN (inSt c x) (McOf M m (frOf st1 M m c x))) xs.toArray.size (·<c.lo) (McOf M m (frOf st1 M m c x)) (inSt c x) ⟨xs.toArray,[]⟩ w:=by
 have hown:∀ b o,own (inSt c x) (McOf M m (frOf st1 M m c x)) b o->own st1 M b o:=fun b o=>own_callee h hp hw.std hb
 refine⟨fun n v hn=>?_,fun id v hv=>?_,fun id z v hv=>?_,fun k hk=>?_,fun b o ho=>?_,fun l l' b o h1 h2=>?_,Keeps.refl _ _,rfl,rfl,fun id v hv ht=>?_⟩
 rotate_right
 ·obtain⟨k1,k2,b,xv,k3,k4,k5⟩:=initBx_look c.bs _ 0 id _ hv hb
  rcases k5 with⟨s,k5,k6⟩ | ⟨k5,k6⟩
  ·cases k6
   have:=(std_ms (hw.std b k3)).2
   rw[this] at ht
   cases ht
  ·cases k6
 ·obtain⟨_,k2,k3,k4⟩:=initSl_look (U:=(·<c.lo)) c.A _ c.ash xs 0 hargs (fun s hs=>shInB_in hw.le s (hw.ash s hs)) n v hn
  refine⟨?_,k4⟩
  have e:xs.toArray.getD n undef=xs.getD (n-0) undef:=by simp [Array.getD_eq_getD_getElem?,List.getD_eq_getElem?_getD]
  show RepV P v.ty w _ _ v.val v.sh (xs.toArray.getD n undef)
  rw[e]
  exact k3
 ·obtain⟨k1,k2,b,xv,k3,k4,k5⟩:=initBx_look c.bs _ 0 id _ hv hb
  rcases k5 with⟨s,k5,k6⟩ | ⟨k5,k6⟩
  ·cases k6
   obtain⟨id',q,off,cv,s',mi,mi',e1,e2,e3,e4,e5,e6,e7,e8,cs,e9,e10⟩:=boxIn_rep h hp (hw.std b k3) k4
   refine⟨(BoxOk.plain (std_ms (hw.std b k3)).1).2 ⟨(std_ms (hw.std b k3)).2,cs,matchSh_rep (fun b o _=>hown b o) _ _ _ e7 (McOf_ok.anti e8) e9,fun j u hj=>?_⟩,shInB_in hw.le _ (hw.sin b k3),by have:=hw.le;omega⟩
   rw[McOf_ok.bm _ _ _ _ e1]
   exact e10 j u hj
  ·cases k6
 ·obtain⟨k1,k2,b,xv,k3,k4,k5⟩:=initBx_look c.bs _ 0 id _ hv hb
  rcases k5 with⟨s,k5,k6⟩ | ⟨k5,k6⟩
  ·cases k6
  ·cases k6
   obtain⟨id',q,off,cv,s',mi,mi',e1,e2,e3,e4,e5,e6,e7,e8,cs,e9,e10⟩:=boxIn_rep h hp (hw.std b k3) k4
   refine⟨⟨(std_ms (hw.std b k3)).2,(std_ms (hw.std b k3)).1,cs,matchSh_rep (fun b o _=>hown b o) _ _ _ e7 (McOf_ok.anti e8) e9,fun j u hj=>⟨?_,?_⟩⟩,shInB_in hw.le _ (hw.sin b k3),by have:=hw.le;omega⟩
   ·rw[McOf_ok.bm _ _ _ _ e1]
    exact e10 j u hj
   ·rw[McOf_ok.bm _ _ _ _ e1]
    rintro⟨l,hl0,hl⟩
    have hjl:j<b.ty.size:=by
     rw[← e9.len (std_ms (hw.std b k3)).2]
     exact(List.getElem?_eq_some_iff.1 hj).1
    have hrc:=reg_callee h hp hw.std hb hl hl0
    rcases e2 with e2 | ⟨e2,z,e2'⟩
    ·have hcv:reg st1 M (.b id') (M.box id').1 ((M.box id').2+off+j):=⟨cv,e2,(inBox.plain e3).2 ⟨rfl,by omega,by omega⟩⟩
     rcases hrc with⟨n',id2,q2,v2,f1,f2,f3,f4⟩ | ⟨j',t',f1,f2,f4⟩
     ·have:=h.dis _ _ _ _ f4 hcv
      cases this
      have hnn:=hi.bm _ _ _ _ _ f2 e1
      subst hnn f1
      obtain⟨v3,g1,g2⟩:=hl
      have:=hv.symm.trans g1
      cases this
     ·have:=h.dis _ _ _ _ f4 hcv
      cases this
    ·have hown2:ownN st1 M (M.box id').1 ((M.box id').2+off+j):=by
      rcases hrc with⟨n',id2,q2,v2,f1,f2,f3,f4⟩ | ⟨j',t',f1,f2,f4⟩
      ·exact⟨_,fun e=>(by cases e),f4⟩
      ·exact⟨_,fun e=>(by cases e),f4⟩
     obtain⟨⟨g1,g2,cs2,g3,g4⟩,_⟩:=h.ro _ _ _ e2'
     have hlen:=g3.len g1
     have hj2:off+j<cs2.length:=by omega
     have:=(g4 (off+j) _ (List.getElem?_eq_getElem hj2)).2
     rw[← Nat.add_assoc] at this
     refine this ?_
     cases z
     ·exact hown2
     ·obtain⟨l2,_,hl2⟩:=hown2
      exact⟨l2,hl2⟩
 ·obtain⟨hk,_⟩:=look_true hk
  obtain⟨b,hb1,hb2⟩:=List.mem_flatMap.1 hk
  have:∀ s:Sh,shInB c.bs.length c.lo s=true->∀ k∈toksOf s,k<c.lo:=by
   intro s
   induction s with
   | tok k=>intro h0 k' hk';simp only[toksOf,List.mem_singleton] at hk';subst hk';exact Nat.le_of_ble_eq_true h0
   | pr s t ihs iht =>
    intro h0 k' hk'
    simp only[shInB,Bool.and_eq_true] at h0
    rcases List.mem_append.1 hk' with hk' | hk'
    ·exact ihs h0.1 k' hk'
    ·exact iht h0.2 k' hk'
   | _=>intro h0 k' hk';simp [toksOf] at hk'
  exact this _ (hw.sin b hb1) k hb2
 ·obtain⟨l1,l2,_⟩:=h.live b o (hown b o ho)
  refine⟨l1,l2,.inr ?_⟩
  obtain⟨l,hl⟩:=ho
  by_cases e:l=.s 0
  ·subst e;exact .inr hl
  ·exact .inl ⟨l,e,hl⟩
 ·have key:∀ l,reg (inSt c x) (McOf M m (frOf st1 M m c x)) l b o->l≠.s 0->¬ reg (inSt c x) (McOf M m (frOf st1 M m c x)) (.s 0) b o:=fun l hl hl0 hF=>hF.2 (by rw[← ownN_McOf (frOf st1 M m c x)];exact⟨l,hl0,hl⟩)
  by_cases e1:l=.s 0
  ·by_cases e2:l'=.s 0
   ·rw[e1,e2]
   ·subst e1;exact(key l' h2 e2 h1).elim
  ·by_cases e2:l'=.s 0
   ·subst e2;exact(key l h1 e1 h2).elim
   ·rcases reg_callee h hp hw.std hb h1 e1 with⟨n,id,q,v,f1,f2,f3,f4⟩ | ⟨j,t,f1,f2,f4⟩ <;>
     rcases reg_callee h hp hw.std hb h2 e2 with⟨n',id',q',v',g1,g2,g3,g4⟩ | ⟨j',t',g1,g2,g4⟩
    ·have:=h.dis _ _ _ _ f4 g4
     cases this
     rw[f1,g1,hi.bm _ _ _ _ _ f2 g2]
    ·have:=h.dis _ _ _ _ f4 g4;cases this
    ·have:=h.dis _ _ _ _ f4 g4;cases this
    ·have:=h.dis _ _ _ _ f4 g4
     cases this
     rw[f1,g1,hi.tm _ _ _ f2 g2]
end Go.VX
/- VX, part 35: what a callee hands back, as the caller's. -/
set_option linter.unusedVariables false
set_option linter.unusedSimpArgs false
namespace Go.VX
theorem memNat_false{l:List Nat} {n:Nat}:memNat l n=false->n ∉ l:=by
 induction l with
 | nil=>intro _ h;cases h
 | cons a l ih =>
  intro h hm
  simp only[memNat] at h
  split at h
  ·cases h
  ·rename_i hb
   rcases List.mem_cons.1 hm with e | hm
   ·subst e;simp at hb
   ·exact ih h hm
theorem nodupN_spec:∀ {l:List Nat},nodupN l=true->l.Nodup
 | [],_=>List.nodup_nil
 | a::l,h=>by
  simp only[nodupN,Bool.and_eq_true,Bool.not_eq_true'] at h
  exact List.nodup_cons.2 ⟨memNat_false h.1,nodupN_spec h.2⟩
theorem mem_upTo:∀ {n i k:Nat},k∈upTo n i↔i<=k/\k<i+n
 | 0,i,k=>by simp [upTo]
 | n+1,i,k=>by
  simp only[upTo,List.mem_cons,mem_upTo (n:=n)]
  omega
theorem look_nodup{α:Type}:∀ {l:List (Nat×α)} {k:Nat} {x:α},(l.map (·.1)).Nodup->(k,x)∈l->look l k=some x
 | [],k,x,h,hm=>by simp at hm
 | (a,y)::l,k,x,h,hm=>by
  rw[look_cons]
  rw[List.map_cons,List.nodup_cons] at h
  rcases List.mem_cons.1 hm with e | hm
  ·cases e;rw[if_pos rfl]
  ·rw[if_neg]
   ·exact look_nodup h.2 hm
   ·intro e;subst e;exact h.1 (List.mem_map.2 ⟨(_,x),hm,rfl⟩)
theorem look_mem{α:Type}:∀ {l:List (Nat×α)} {k:Nat} {x:α},look l k=some x->(k,x)∈l
 | [],k,x,h=>by cases h
 | (a,y)::l,k,x,h=>by
  rw[look_cons] at h
  split at h
  ·rename_i e;subst e;cases h;exact List.mem_cons_self
  ·exact List.mem_cons_of_mem _ (look_mem h)
theorem look_putL{α:Type}:∀ {ds l:List (Nat×α)} {n:Nat} {x:α},look (putL ds l) n=some x->(n,x)∈ds\/((∀ y,(n,y) ∉ ds)/\look l n=some x)
 | [],l,n,x,h=>.inr ⟨fun y hy=>by simp at hy,h⟩
 | (a,y)::ds,l,n,x,h=>by
  rcases look_putL (ds:=ds) (l:=(a,y)::l) h with h | ⟨h1,h2⟩
  ·exact .inl (List.mem_cons_of_mem _ h)
  ·rw[look_cons] at h2
   split at h2
   ·rename_i e;subst e;cases h2;exact .inl List.mem_cons_self
   ·rename_i e
    refine .inr ⟨fun z hz=>?_,h2⟩
    rcases List.mem_cons.1 hz with e' | hz
    ·cases e';exact e rfl
    ·exact h1 z hz
theorem toks_ren{m:Mt} {base:Nat}:∀ s:Sh,toksOf (ren m base s)=(toksOf s).map (base+·)
 | .tok k=>rfl
 | .mref k=>rfl
 | .box k p o=>by
  simp only[ren]
  split<;>rfl
 | .elem _ _ _ _ _ _=>rfl
 | .pr a b=>by simp only[ren,toksOf,toks_ren a,toks_ren b,List.map_append]
 | .o | .nilp | .nils=>rfl
theorem goes_rdToks{st:St} {ω:Bool}:∀ (l:List (Nat×Option Nat)) (k:RM) (p:Patch) (f:List Loc),Goes st ω (rdToks l k) p f->(∀ j t,(j,some t)∈l->look st.tk t=some true)/\∃ f',Goes st ω k p f'
 | [],k,p,f,g=>⟨fun j t h=>by simp at h,f,g⟩
 | (j0,some t0)::l,k,p,f,g=>by
  simp only[rdToks] at g
  cases g with
  | rdT h g =>
   obtain⟨h1,f',h2⟩:=goes_rdToks l k p _ g
   refine⟨fun j t hm=>?_,f',h2⟩
   rcases List.mem_cons.1 hm with e | hm
   ·cases e;exact h
   ·exact h1 j t hm
 | (j0,none)::l,k,p,f,g=>by
  simp only[rdToks] at g
  obtain⟨h1,f',h2⟩:=goes_rdToks l k p _ g
  refine⟨fun j t hm=>?_,f',h2⟩
  rcases List.mem_cons.1 hm with e | hm
  ·cases e
  ·exact h1 j t hm
def newL(m:Mt) (base:Nat):(nb:List (Nat×Ty×Sh))->(tuL (nbL nb)).D->List (Nat×Bx)
 | [],_=>[]
 | (j,t,s)::nb,x=>(base+j,.rw ⟨t,x.1,ren m base s⟩)::newL m base nb x.2
def newT(base:Nat) (nb:List (Nat×Ty×Sh)):List (Nat×Bool):=(nb.flatMap fun b=>toksOf b.2.2).map fun k=>(base+k,true)
def OutsR(st:St) (m:Mt) (base:Nat):(bs:List BoxS)->(nb:List (Nat×Ty×Sh))->Nat->(tuL (outL bs nb)).D->List (Nat×Bx)->Prop
 | [],nb,_,x,l=>l=newL m base nb x
 | ⟨t,_,some s⟩::bs,nb,i,x,l=>∃ id p off cv c' l',look m.bm i=some (id,p,off)/\look st.bx id=some (.rw cv)/\setP cv p ⟨t,x.1,ren m base s⟩=some c'/\l=(id,.rw c')::l'/\OutsR st m base bs nb (i+1) x.2 l'
 | ⟨_,_,none⟩::bs,nb,i,x,l=>OutsR st m base bs nb (i+1) x l
theorem goes_newOut{st:St} {ω:Bool} {m:Mt} {base:Nat}:∀ (nb:List (Nat×Ty×Sh)) (x:(tuL (nbL nb)).D) (k:List (Nat×Bx)->List (Nat×Bool)->RM) (p:Patch) (f:List Loc),Goes st ω (newOut m base nb x k) p f ->
  Goes st ω (k (newL m base nb x) (newT base nb)) p f
 | [],x,k,p,f,g=>g
 | (j,t,s)::nb,x,k,p,f,g=>by
  have:=goes_newOut nb x.2 _ p f g
  rw[toks_ren,List.map_map] at this
  have e:newT base ((j,t,s)::nb)=(toksOf s).map ((·,true) ∘ (base+·))++newT base nb:=by
   simp only[newT,List.flatMap_cons,List.map_append]
   rfl
  rw[e]
  exact this
theorem goes_boxesOut{st:St} {ω:Bool} {m:Mt} {base:Nat}:∀ (bs:List BoxS) (nb:List (Nat×Ty×Sh)) (i:Nat) (x:(tuL (outL bs nb)).D) (k:List (Nat×Bx)->List (Nat×Bool)->RM) (p:Patch) (f:List Loc),
  Goes st ω (boxesOut m base bs nb i x k) p f->∃ l f',OutsR st m base bs nb i x l/\Goes st ω (k l ((outToks bs nb).map fun k=>(base+k,true))) p f'
 | [],nb,i,x,k,p,f,g=>by
  refine⟨_,f,rfl,?_⟩
  exact goes_newOut nb x k p f g
 | ⟨t,si,some s⟩::bs,nb,i,x,k,p,f,g=>by
  simp only[boxesOut] at g
  split at g
  ·rename_i id q off hq
   obtain⟨cv,f1,hc,g,_⟩:=goes_rdW g
   split at g
   ·rename_i c' hc'
    obtain⟨l,f2,h1,g⟩:=goes_boxesOut bs nb (i+1) x.2 _ p f1 g
    refine⟨(id,.rw c')::l,f2,⟨id,q,off,cv,c',l,hq,hc,hc',rfl,h1⟩,?_⟩
    rw[toks_ren,List.map_map] at g
    have e:outToks (⟨t,si,some s⟩::bs) nb=toksOf s++outToks bs nb:=by simp [outToks]
    rw[e,List.map_append]
    exact g
   ·cases g
  ·cases g
 | ⟨t,si,none⟩::bs,nb,i,x,k,p,f,g=>by
  simp only[boxesOut] at g
  obtain⟨l,f2,h1,g⟩:=goes_boxesOut bs nb (i+1) x _ p f g
  exact⟨l,f2,h1,by simpa [outToks] using g⟩
theorem newL_mem{m:Mt} {base:Nat}:∀ {nb:List (Nat×Ty×Sh)} {x:(tuL (nbL nb)).D} {n:Nat} {y:Bx},(n,y)∈newL m base nb x ->
  ∃ (j:Nat) (t:Ty) (s:Sh) (xv:t.D),n=base+j/\y=.rw ⟨t,xv,ren m base s⟩/\(j,.rw ⟨t,xv,s⟩)∈outBxN nb x/\j∈nb.map (·.1)
 | [],x,n,y,h=>by cases h
 | (j,t,s)::nb,x,n,y,h=>by
  rcases List.mem_cons.1 h with e | h
  ·cases e
   exact⟨j,t,s,x.1,rfl,rfl,List.mem_cons_self,by simp⟩
  ·obtain⟨j',t',s',xv,h1,h2,h3,h4⟩:=newL_mem h
   exact⟨j',t',s',xv,h1,h2,List.mem_cons_of_mem _ h3,by simp only[List.map_cons,List.mem_cons];exact .inr h4⟩
theorem outs_mem{st:St} {m:Mt} {base:Nat}:∀ {bs:List BoxS} {nb:List (Nat×Ty×Sh)} {i:Nat} {s0:(boxT bs).D} {x:(tuL (outL bs nb)).D} {l:List (Nat×Bx)} {n:Nat} {y:Bx},OutsR st m base bs nb i x l->BoxesIn st m bs i s0->(n,y)∈l ->
  (∃ (k:Nat) (b:BoxS) (s:Sh) (xv0 xv:b.ty.D) (p:List Nat) (off:Nat) (cv c':Vl),b∈bs/\i<=k/\k<i+bs.length/\b.sout=some s/\BoxIn st m k b xv0/\look m.bm k=some (n,p,off)/\look st.bx n=some (.rw cv)/\setP cv p ⟨b.ty,xv,ren m base s⟩=some c'/\y=.rw c' /\
   (k,.rw ⟨b.ty,xv,s⟩)∈outBx bs nb i x/\look (initBx bs s0 i) k=some (.rw ⟨b.ty,xv0,b.sin⟩)) \/
  (∃ (j:Nat) (t:Ty) (s:Sh) (xv:t.D),n=base+j/\y=.rw ⟨t,xv,ren m base s⟩/\(j,.rw ⟨t,xv,s⟩)∈outBx bs nb i x/\j∈nb.map (·.1))
 | [],nb,i,s0,x,l,n,y,h,hb,hm=>by
  have:l=newL m base nb x:=h
  subst this
  exact .inr (newL_mem hm)
 | ⟨t,si,some s⟩::bs,nb,i,s0,x,l,n,y,h,hb,hm=>by
  obtain⟨id,p,off,cv,c',l',h1,h2,h3,rfl,h4⟩:=h
  rcases List.mem_cons.1 hm with e | hm
  ·cases e
   exact .inl ⟨i,_,s,s0.1,x.1,p,off,cv,c',List.mem_cons_self,Nat.le_refl _,by simp,rfl,hb.1,h1,h2,h3,rfl,List.mem_cons_self,by rw[initBx,look_cons,if_pos rfl]⟩
  ·rcases outs_mem h4 hb.2 hm with⟨k,b,s',xv0,xv,p',off',cv',c2,g1,g2,g3,g4,g5,g6,g7,g8,g9,g10,g11⟩ | ⟨j,t',s',xv,g1,g2,g3,g4⟩
   ·exact .inl ⟨k,b,s',xv0,xv,p',off',cv',c2,List.mem_cons_of_mem _ g1,by omega,by simp;omega,g4,g5,g6,g7,g8,g9,List.mem_cons_of_mem _ g10,by rw[initBx,look_cons,if_neg (by omega)];exact g11⟩
   ·exact .inr ⟨j,t',s',xv,g1,g2,List.mem_cons_of_mem _ g3,g4⟩
 | ⟨t,si,none⟩::bs,nb,i,s0,x,l,n,y,h,hb,hm=>by
  have h:OutsR st m base bs nb (i+1) x l:=h
  rcases outs_mem h hb.2 hm with⟨k,b,s',xv0,xv,p',off',cv',c2,g1,g2,g3,g4,g5,g6,g7,g8,g9,g10,g11⟩ | ⟨j,t',s',xv,g1,g2,g3,g4⟩
  ·exact .inl ⟨k,b,s',xv0,xv,p',off',cv',c2,List.mem_cons_of_mem _ g1,by omega,by simp;omega,g4,g5,g6,g7,g8,g9,g10,by rw[initBx,look_cons,if_neg (by omega)];exact g11⟩
  ·exact .inr ⟨j,t',s',xv,g1,g2,g3,g4⟩
theorem outs_all{st:St} {m:Mt} {base:Nat}:∀ {bs:List BoxS} {nb:List (Nat×Ty×Sh)} {i:Nat} {s0:(boxT bs).D} {x:(tuL (outL bs nb)).D} {l:List (Nat×Bx)} {k:Nat} {v:Vl},OutsR st m base bs nb i x l ->
  look (initBx bs s0 i) k=some (.rw v)->∃ id q y,look m.bm k=some (id,q)/\(id,y)∈l
 | [],nb,i,s0,x,l,k,v,h,hk=>by cases hk
 | ⟨t,si,some s⟩::bs,nb,i,s0,x,l,k,v,h,hk=>by
  obtain⟨id,p,off,cv,c',l',h1,h2,h3,rfl,h4⟩:=h
  rw[initBx,look_cons] at hk
  split at hk
  ·rename_i e
   subst e
   exact⟨id,(p,off),_,h1,List.mem_cons_self⟩
  ·obtain⟨id',q,y,e1,e2⟩:=outs_all h4 hk
   exact⟨id',q,y,e1,List.mem_cons_of_mem _ e2⟩
 | ⟨t,si,none⟩::bs,nb,i,s0,x,l,k,v,h,hk=>by
  rw[initBx,look_cons] at hk
  split at hk
  ·cases hk
  ·have h:OutsR st m base bs nb (i+1) x l:=h
   exact outs_all h hk
theorem outBxN_keys:∀ (nb:List (Nat×Ty×Sh)) (x:(tuL (nbL nb)).D),(outBxN nb x).map (·.1)=nb.map (·.1)
 | [],_=>rfl
 | (j,t,s)::nb,x=>by simp only[outBxN,List.map_cons,outBxN_keys nb x.2]
theorem outBx_keys:∀ (bs:List BoxS) (nb:List (Nat×Ty×Sh)) (i:Nat) (x:(tuL (outL bs nb)).D),((outBx bs nb i x).map (·.1)).Sublist (upTo bs.length i++nb.map (·.1))
 | [],nb,i,x=>by
  have h:=outBxN_keys nb x
  have h2:((outBxN nb x).map (·.1)).Sublist (nb.map (·.1)):=by rw[h];exact List.Sublist.refl _
  exact h2
 | ⟨t,si,some s⟩::bs,nb,i,x=>by
  simp only[outBx,List.map_cons,List.length_cons,upTo,List.cons_append]
  exact(outBx_keys bs nb (i+1) x.2).cons_cons i
 | ⟨t,si,none⟩::bs,nb,i,x=>by
  simp only[outBx,List.length_cons,upTo,List.cons_append]
  exact(outBx_keys bs nb (i+1) x).cons i
theorem msOf_keys(base:Nat):∀ (t:Ty) (x:t.D) (s:Sh),(msOf base t x s).map (·.1)=(mkeys t s).map (base+·)
 | .sl e,x,s=>by cases s<;>rfl
 | .pr a b,x,s=>by cases s<;>first | rfl | simp only[msOf,mkeys,List.map_append,msOf_keys base a,msOf_keys base b]
 | .tu a b,x,s=>by cases s<;>first | rfl | simp only[msOf,mkeys,List.map_append,msOf_keys base a,msOf_keys base b]
 | .int _,_,_ | .bool,_,_ | .str,_,_ | .ptr,_,_ | .unit,_,_ | .ms _,_,_ | .fn _ _,_,_ | .rref _,_,_ | .eref,_,_ | .mh,_,_ | .nx,_,_=>rfl
theorem msOf_mem(base:Nat):∀ (t:Ty) (x:t.D) (s:Sh) {n:Nat} {y:Bx},(n,y)∈msOf base t x s->∃ (k:Nat) (e:Ty) (xv:List e.D),n=base+k/\y=.rw ⟨.ms e,xv,.o⟩/\(k,y)∈msOf 0 t x s/\k∈mkeys t s
 | .sl e,x,s,n,y,h=>by
  cases s<;>simp only[msOf,List.mem_singleton,List.not_mem_nil] at h
  rename_i k
  cases h
  exact⟨k,e,x,rfl,rfl,by simp [msOf],by simp [mkeys]⟩
 | .pr a b,x,s,n,y,h=>by
  cases s<;>simp only[msOf,List.not_mem_nil,List.mem_append] at h
  rename_i s1 s2
  rcases h with h | h
  ·obtain⟨k,e,xv,h1,h2,h3,h4⟩:=msOf_mem base a x.1 s1 h
   exact⟨k,e,xv,h1,h2,by simp only[msOf,List.mem_append];exact .inl h3,by simp only[mkeys,List.mem_append];exact .inl h4⟩
  ·obtain⟨k,e,xv,h1,h2,h3,h4⟩:=msOf_mem base b x.2 s2 h
   exact⟨k,e,xv,h1,h2,by simp only[msOf,List.mem_append];exact .inr h3,by simp only[mkeys,List.mem_append];exact .inr h4⟩
 | .tu a b,x,s,n,y,h=>by
  cases s<;>simp only[msOf,List.not_mem_nil,List.mem_append] at h
  rename_i s1 s2
  rcases h with h | h
  ·obtain⟨k,e,xv,h1,h2,h3,h4⟩:=msOf_mem base a x.1 s1 h
   exact⟨k,e,xv,h1,h2,by simp only[msOf,List.mem_append];exact .inl h3,by simp only[mkeys,List.mem_append];exact .inl h4⟩
  ·obtain⟨k,e,xv,h1,h2,h3,h4⟩:=msOf_mem base b x.2 s2 h
   exact⟨k,e,xv,h1,h2,by simp only[msOf,List.mem_append];exact .inr h3,by simp only[mkeys,List.mem_append];exact .inr h4⟩
 | .int _,_,_,_,_,h | .bool,_,_,_,_,h | .str,_,_,_,_,h | .ptr,_,_,_,_,h | .unit,_,_,_,_,h | .ms _,_,_,_,_,h | .fn _ _,_,_,_,_,h | .rref _,_,_,_,_,h | .eref,_,_,_,_,h | .mh,_,_,_,_,h | .nx,_,_,_,_,h=>by simp [msOf] at h
theorem outSt_look{c:Con} (hw:WfC c) {y:c.R.D} {k:Nat} {x:Bx} (h:(k,x)∈outBx c.bs c.nb 0 (conOut c.B (outL c.bs c.nb) y).2\/(k,x)∈msOf 0 c.B (conOut c.B (outL c.bs c.nb) y).1 c.bsh):look (outSt c y).bx k=some x:=by
 refine look_nodup ?_ (List.mem_append.2 h)
 have h1:=outBx_keys c.bs c.nb 0 (conOut c.B (outL c.bs c.nb) y).2
 have h2:=msOf_keys 0 c.B (conOut c.B (outL c.bs c.nb) y).1 c.bsh
 have h3:((outBx c.bs c.nb 0 (conOut c.B (outL c.bs c.nb) y).2++msOf 0 c.B (conOut c.B (outL c.bs c.nb) y).1 c.bsh).map (·.1)).Sublist (upTo c.bs.length 0++(c.nb.map (·.1)++mkeys c.B c.bsh)):=by
  rw[List.map_append,h2,← List.append_assoc]
  refine List.Sublist.append h1 ?_
  simp
 exact h3.nodup (nodupN_spec hw.nodup)
theorem new_ge{c:Con} (hw:WfC c) {k:Nat} (h:k∈c.nb.map (·.1)++mkeys c.B c.bsh):c.bs.length<=k/\k<c.fr:=by
 refine⟨?_,hw.lt k h⟩
 have:=(List.nodup_append.1 (nodupN_spec hw.nodup)).2.2
 rcases Nat.lt_or_ge k c.bs.length with hk | hk
 ·exact(this k (mem_upTo.2 ⟨Nat.zero_le _,by omega⟩) k h rfl).elim
 ·exact hk
end Go.VX
/- VX, part 36: the caller's state behind a call. -/
set_option linter.unusedVariables false
set_option linter.unusedSimpArgs false
namespace Go.VX
def MpAft(M Mc:Mp) (base n:Nat):Mp where
  box:=fun k=>if base<=k/\k<base+n then Mc.box (k-base) else M.box k
  tok:=fun k=>if base<=k/\k<base+n then Mc.tok (k-base) else M.tok k
  row:=fun k=>if base<=k/\k<base+n then Mc.row (k-base) else M.row k
  fr:=M.fr
theorem MpAft_agree{U:Nat->Prop} {M Mc:Mp} {base n:Nat} (hf:∀ k,base<=k->k<base+n->¬ U k):Agree U M (MpAft M Mc base n):=by
  refine⟨rfl,fun k hk=>?_⟩
  have:¬ (base<=k/\k<base+n):=fun h=>hf k h.1 h.2 hk
  simp [MpAft,this]
theorem MpAft_new{M Mc:Mp} {base n k:Nat} (hk:k<n):(MpAft M Mc base n).box (base+k)=Mc.box k/\(MpAft M Mc base n).tok (base+k)=Mc.tok k/\(MpAft M Mc base n).row (base+k)=Mc.row k:=by
  have:base<=base+k/\base+k<base+n:=⟨by omega,by omega⟩
  simp [MpAft,this]
structure RenOk (Mc M':Mp) (m:Mt) (base nf:Nat):Prop where
  old:∀ k id p off,look m.bm k=some (id,p,off)->Mc.box k=((M'.box id).1,(M'.box id).2+off)
  box:∀ k,k<nf->M'.box (base+k)=Mc.box k
  tok:∀ k,k<nf->M'.tok (base+k)=Mc.tok k
  row:∀ k,k<nf->M'.row (base+k)=Mc.row k
theorem SlV.ren{s:Sh} {a:Option (Nat×Nat)} {n c:Nat} {cs:List Value} (k:SlV s a n c cs) (m:Mt) (base:Nat):SlV (ren m base s) a n c cs:=by
  rcases k with k | ⟨h,k⟩
  · exact .inl k
  · refine .inr ⟨?_,k⟩
    cases s with
    | box k0 q off=>simp only[Go.VX.ren];cases look m.bm k0<;>rfl
    | mref _=>cases h
    | nils=>cases h
    | tok _=>cases h
    | _=>rfl
theorem ren_rep{P:Program} {w:World} {O O':Own} {Mc M':Mp} {m:Mt} {base nf:Nat} (hO:∀ b o,b<w.heap.size->O' b o->O b o) (hr:RenOk Mc M' m base nf) :
    ∀ (t:Ty) {x:t.D} {s:Sh} {cs:List Value},RepC P t w O Mc x s cs->ShIn (·<nf) s->RepC P t w O' M' x (ren m base s) cs
  | .int _,_,_,_,r,_=>r
  | .bool,_,_,_,r,_=>r
  | .str,_,_,_,r,_=>r
  | .unit,_,_,_,r,_=>r
  | .ms _,_,_,_,r,_=>r.elim
  | .ptr,_,s,_,r,hs=>by
    obtain⟨p,e,k⟩:=r
    refine⟨p,e,?_⟩
    cases s with
    | box k0 q off =>
      dsimp only[PtrSh] at k
      simp only[ren]
      split
      · rename_i id p' o' hk
        dsimp only[PtrSh]
        rw[k,hr.old _ _ _ _ hk]
        dsimp only
        rw[Nat.add_assoc]
      · dsimp only[PtrSh]
        rw[k,hr.box k0 hs]
    | nilp=>exact k
    | _=>trivial
  | .nx,_,s,_,r,hs=>by
    cases s with
    | mref j =>
      obtain⟨a,c,e,k⟩:=r
      refine⟨a,c,e,fun hl=>?_⟩
      rw[hr.row j hs];exact k hl
    | box k0 q off=>simp only[ren];split<;>exact r
    | pr a b =>
      cases a with
      | box k0 q off =>
        cases b with
        | mref j =>
          simp only[RepC] at r
          simp only[ren]
          split
          · rename_i id p' o' hk
            show _=_
            rw[r,hr.old _ _ _ _ hk]
            dsimp only
            rw[Nat.add_assoc]
          · show _=_
            rw[r,hr.box k0 hs.1]
        | box k1 q1 o1=>simp only[ren];split<;>split<;>exact r
        | _=>simp only[ren];split<;>exact r
      | _=>cases b<;>first | exact r | (simp only[ren];split<;>exact r)
    | _=>exact r
  | .mh,_,s,_,r,hs=>by
    obtain⟨p,e,k⟩:=r
    refine⟨p,e,?_⟩
    cases s with
    | box k0 q off =>
      dsimp only[MapSh] at k
      simp only[ren]
      split
      · rename_i id p' o' hk
        dsimp only[MapSh]
        rw[k,hr.old _ _ _ _ hk]
      · dsimp only[MapSh]
        rw[k,hr.box k0 hs]
    | nilp=>exact k
    | _=>trivial
  | .sl e,x,s,_,r,hs=>by
    obtain⟨a,n,c,e1,e2,e3,e4,k⟩:=r
    refine⟨a,n,c,e1.ren m base,e2,e3,e4,?_⟩
    have imp:(∀ p,a=some p->Elems (fun y es=>RepC P e w O Mc y .o es) w O e.size p x)->∀ p,a=some p->Elems (fun y es=>RepC P e w O' M' y .o es) w O' e.size p x :=
      fun he p hp=>(he p hp).imp (Ext.refl _ _) hO fun y es hy=>RepC.mono P e hy (Ext.refl _ _) hO (by trivial)
    cases s with
    | tok j =>
      dsimp only[SlSh,ren] at k ⊢
      exact⟨imp k.1,k.2.ren (hr.tok j hs)⟩
    | mref j =>
      dsimp only[SlSh,ren] at k ⊢
      rw[hr.row j hs];exact k
    | nils=>exact k
    | box k0 q off =>
      simp only[ren]
      split<;>exact imp k
    | _=>exact imp k
  | .pr a b,x,s,cs,r,hs=>by
    obtain⟨c1,c2,e,l1,l2,t1,t2,r1,r2⟩:=r
    refine⟨c1,c2,e,l1,l2,t1,t2,?_,?_⟩
    · have:=ren_rep hO hr a r1 hs.fst
      cases s with
      | pr s1 s2=>exact this
      | box k0 q off=>simp only[ren];split<;>exact this
      | _=>exact this
    · have:=ren_rep hO hr b r2 hs.snd
      cases s with
      | pr s1 s2=>exact this
      | box k0 q off=>simp only[ren];split<;>exact this
      | _=>exact this
  | .tu a b,x,s,cs,r,hs=>by
    obtain⟨v,vs,e,t1,r1,r2⟩:=r
    refine⟨v,vs,e,t1,r1.imp fun c hc=>?_,?_⟩
    · have:=ren_rep hO hr a hc hs.fst
      cases s with
      | pr s1 s2=>exact this
      | box k0 q off=>simp only[ren];split<;>exact this
      | _=>exact this
    · have:=ren_rep hO hr b r2 hs.snd
      cases s with
      | pr s1 s2=>exact this
      | box k0 q off=>simp only[ren];split<;>exact this
      | _=>exact this
  | .fn a b,x,s,cs,r,_=>by
    obtain⟨v,e,h1,r⟩:=r
    refine⟨v,e,h1,?_⟩
    rcases r with r | r
    · exact .inl r
    · exact .inr (r.mono (Ext.refl _ _) hO)
  | .rref e,x,s,cs,r,_=>by
    obtain⟨b,o,es,e1,e0,e2,e3,e4⟩:=r
    exact⟨b,o,es,e1,e0,e2,e3.mono (Ext.refl _ _) hO,RepC.mono P e e4 (Ext.refl _ _) hO (by trivial)⟩
  | .eref,x,s,cs,r,_=>by
    obtain⟨b,o,e1,e0,e2⟩:=r
    refine⟨b,o,e1,e0,?_⟩
    cases s with
    | box k0 q off =>
      simp only[ren]
      cases look m.bm k0<;>trivial
    | _=>trivial
theorem ren_repV{P:Program} {w:World} {O O':Own} {Mc M':Mp} {m:Mt} {base nf:Nat} (hO:∀ b o,b<w.heap.size->O' b o->O b o) (hr:RenOk Mc M' m base nf)
    {t:Ty} {x:t.D} {s:Sh} {v:Value} (r:RepV P t w O Mc x s v) (hs:ShIn (·<nf) s):RepV P t w O' M' x (ren m base s) v:=by
  unfold RepV at *
  split at r
  · obtain⟨vs,e,r⟩:=r
    exact⟨vs,e,ren_rep hO hr _ r hs⟩
  · exact r.imp fun c hc=>ren_rep hO hr _ hc hs
theorem ren_in{U U':Nat->Prop} {m:Mt} {base nf:Nat} (ho:∀ k id q,look m.bm k=some (id,q)->U' id) (hn:∀ k,k<nf->U' (base+k)):∀ s:Sh,ShIn (·<nf) s->ShIn U' (ren m base s)
  | .tok k,h=>hn k h
  | .mref k,h=>hn k h
  | .box k p o,h=>by
    simp only[ren]
    split
    · rename_i id p' o' hk;exact ho k id _ hk
    · exact hn k h
  | .elem _ _ _ _ _ _,_=>trivial
  | .pr a b,h=>⟨ren_in (U:=U) ho hn a h.1,ren_in (U:=U) ho hn b h.2⟩
  | .o,_ | .nilp,_ | .nils,_=>trivial
theorem ren_box{P:Program} {w:World} {O O':Own} {Mc M':Mp} {m:Mt} {base nf:Nat} (hO:∀ b o,b<w.heap.size->O' b o->O b o) (hr:RenOk Mc M' m base nf) {k:Nat} (hk:k<nf)
    {t:Ty} {x:t.D} {s:Sh} (h:BoxOk P w O Mc k ⟨t,x,s⟩) (hs:ShIn (·<nf) s):BoxOk P w O' M' (base+k) ⟨t,x,ren m base s⟩:=by
  by_cases hv:isMs t=true
  · cases t<;>first | cases hv | skip
    rotate_left
    · exact ObOk.mono (t:=.tu _ _) h (Ext.refl _ _) hO (hr.box k hk) rfl
    · cases h.1
    rename_i e
    obtain⟨e0,a,n,c,e1,e2,e3,e4,k2⟩:=h
    refine⟨e0,a,n,c,(hr.row k hk).trans e1,e2,e3,e4,fun p hp=>⟨(hr.box k hk).trans (k2 p hp).1,fun i y hi=>?_⟩⟩
    obtain⟨es,f1,f2,f3⟩:=(k2 p hp).2 i y hi
    exact⟨es,f1,f2,RepC.mono P e f3 (Ext.refl _ _) hO trivial⟩
  · have hv:isMs t=false:=by simpa using hv
    obtain⟨ht,cs,r,k2⟩:=(BoxOk.plain (v:=⟨t,x,s⟩) hv).1 h
    refine(BoxOk.plain (v:=⟨t,x,ren m base s⟩) hv).2 ⟨ht,cs,ren_rep hO hr t r hs,fun j u hj=>?_⟩
    rw[hr.box k hk]
    exact k2 j u hj
theorem ren_inBox{Mc M':Mp} {m:Mt} {base nf:Nat} (hr:RenOk Mc M' m base nf) {k:Nat} (hk:k<nf) {t:Ty} {b o:Nat}:inBox M' (base+k) t b o↔inBox Mc k t b o:=by
  cases t<;>simp only[inBox,hr.box k hk,hr.row k hk]
theorem setP_ms{p:List Nat} {v u v':Vl} (h:setP v p u=some v') (hu:isMs u.ty=false):isMs v'.ty=false:=by
  cases p with
  | nil =>
    simp only[setP] at h
    split at h
    · cases h;exact hu
    · cases h
  | cons f p =>
    simp only[setP] at h
    split at h
    · split at h
      · rename_i x hx y hy
        obtain⟨tv,xv,sv⟩:=v
        dsimp only at h
        have key:∀ (t:Ty) (x:t.D) (s:Sh) (f:Nat) (u v':Vl),setF t x s f u=some v'->isMs v'.ty=false:=by
          intro t x s f u v' h
          cases t<;>first
            | (cases f<;>cases h;done)
            | (cases f with
               | zero=>cases h;rfl
               | succ f =>
                 simp only[setF] at h
                 split at h
                 · cases h;rfl
                 · cases h)
        exact key _ _ _ _ _ _ h
      · cases h
    · cases h
end Go.VX
/- VX, part 37: the caller's state behind a call: it holds. -/
set_option linter.unusedVariables false
set_option linter.unusedSimpArgs false
namespace Go.VX
structure Back (P:Program) (w0:World) (I:Own) (nt:Nat) (U:Nat->Prop) (M:Mp) (st st1:St) (a:Act) (w:World) (m:Mt) (c:Con) (x:c.I.D) (y:c.R.D) (Mc:Mp) (v:Value) (w':World) (base:Nat) (l:List (Nat×Bx)):Prop where
 h:Rel P w0 I nt U M st1 a w
 hp:Passed st st1 m
 hi:MtInj m
 hw:WfC c
 hb:BoxesIn st m c.bs 0 (conArg c.A c.bs x).2
 hfr:Mc.fr=frOf st1 M m c x
 hbox:∀ k,k<c.bs.length->Mc.box k=(McOf M m (frOf st1 M m c x)).box k
 hout:Rel P w (ownN (inSt c x) (McOf M m (frOf st1 M m c x))) 1 (·<c.fr) Mc (outSt c y) ⟨#[v],[]⟩ w'
 fresh:∀ k,base<=k->k<base+(c.fr+1)->¬ U k
 outs:OutsR st m base c.bs c.nb 0 (conOut c.B (outL c.bs c.nb) y).2 l
 keys:∀ k q,look m.bm k=some q->k<c.bs.length
section
variable {P:Program} {w0:World} {I:Own} {nt:Nat} {U:Nat->Prop} {M:Mp} {st st1:St} {a:Act} {w:World} {m:Mt} {c:Con} {x:c.I.D} {y:c.R.D} {Mc:Mp} {v:Value} {w':World} {base:Nat} {l:List (Nat×Bx)}
def calleeN(st:St) (M:Mp) (m:Mt):Own:=ownN st (McOf M m noOwn)
theorem Back.own_in(B:Back P w0 I nt U M st st1 a w m c x y Mc v w' base l) {b o:Nat} (k:calleeN (inSt c x) M m b o) :
  (∃ n id q v,look m.bm n=some (id,q)/\look st1.bx id=some (.rw v)/\reg st1 M (.b id) b o/\(∃ v2,look (inSt c x).bx n=some (.rw v2)/\inBox (McOf M m noOwn) n v2.ty b o))\/(∃ j t,look m.tm j=some (some t)/\reg st1 M (.t t) b o):=by
 obtain⟨l0,h0,hl⟩:=k
 rcases reg_callee B.h B.hp B.hw.std B.hb hl h0 with⟨n,id,q,v,k1,k2,k3,k4⟩ | ⟨j,t,k1,k2,k3⟩
 ·subst k1
  obtain⟨v2,g1,g2⟩:=hl
  exact .inl ⟨n,id,q,v,k2,k3,k4,v2,g1,g2⟩
 ·exact .inr ⟨j,t,k2,k3⟩
theorem Back.out_s(B:Back P w0 I nt U M st st1 a w m c x y Mc v w' base l) {l0:Loc} {b o:Nat} (h1:reg st1 M l0 b o) (hn:¬ calleeN (inSt c x) M m b o):reg (outSt c y) Mc (.s 0) b o:=by
 show Mc.fr b o
 rw[B.hfr]
 exact⟨⟨l0,h1⟩,hn⟩
theorem Back.not_s(B:Back P w0 I nt U M st st1 a w m c x y Mc v w' base l) {b o:Nat} (h1:reg st1 M (.s 0) b o):¬ calleeN (inSt c x) M m b o:=by
 intro k
 rcases B.own_in k with⟨n,id,q,v,_,_,h2,_⟩ | ⟨j,t,_,h2⟩
 ·have:=B.h.dis _ _ _ _ h1 h2;cases this
 ·have:=B.h.dis _ _ _ _ h1 h2;cases this
theorem Back.not_t(B:Back P w0 I nt U M st st1 a w m c x y Mc v w' base l) {b o t:Nat} (h1:reg st1 M (.t t) b o) (ht:∀ j,look m.tm j≠some (some t)):¬ calleeN (inSt c x) M m b o:=by
 intro k
 rcases B.own_in k with⟨n,id,q,v,_,_,h2,_⟩ | ⟨j,t',h3,h2⟩
 ·have:=B.h.dis _ _ _ _ h1 h2;cases this
 ·have:=B.h.dis _ _ _ _ h1 h2;cases this;exact ht j h3
theorem Back.not_b(B:Back P w0 I nt U M st st1 a w m c x y Mc v w' base l) {b o id:Nat} (h1:reg st1 M (.b id) b o) (ht:∀ y,(id,y) ∉ l):¬ calleeN (inSt c x) M m b o:=by
 intro k
 rcases B.own_in k with⟨n,id',q,v,g1,g2,h2,v2,g3,g4⟩ | ⟨j,t',h3,h2⟩
 ·have:=B.h.dis _ _ _ _ h1 h2
  cases this
  obtain⟨id',q',y,e1,e2⟩:=outs_all (s0:=(conArg c.A c.bs x).2) B.outs g3
  rw[g1] at e1
  cases e1
  exact ht y e2
 ·have:=B.h.dis _ _ _ _ h1 h2;cases this
theorem Back.keepsN(B:Back P w0 I nt U M st st1 a w m c x y Mc v w' base l):Keeps (calleeN (inSt c x) M m) w w':=by
 have:=B.hout.keep
 rw[ownN_McOf] at this
 exact this
theorem Back.keep_cell(B:Back P w0 I nt U M st st1 a w m c x y Mc v w' base l) {l0:Loc} {b o:Nat} (h1:reg st1 M l0 b o) (hn:¬ calleeN (inSt c x) M m b o):w'.cell? ⟨b,o,none⟩=w.cell? ⟨b,o,none⟩ :=
 B.keepsN.cell b o (B.h.own_lt ⟨l0,h1⟩) hn
theorem Back.sub(B:Back P w0 I nt U M st st1 a w m c x y Mc v w' base l) {b o:Nat} (k:calleeN (inSt c x) M m b o):ownN st1 M b o:=by
 rcases B.own_in k with⟨n,id,q,v,_,_,h2,_⟩ | ⟨j,t,_,h2⟩
 ·exact⟨_,fun e=>(by cases e),h2⟩
 ·exact⟨_,fun e=>(by cases e),h2⟩
theorem Back.passed(B:Back P w0 I nt U M st st1 a w m c x y Mc v w' base l) {k:Nat} {b:BoxS} {s:Sh} {xv0 xv:b.ty.D} {id:Nat} {p:List Nat} {off:Nat} {cv:Vl} (hbm:b∈c.bs) (hk:k<c.bs.length) (hs:b.sout=some s)
  (h1:look m.bm k=some (id,p,off)) (h2:look st1.bx id=some (.rw cv)) (hms:isMs cv.ty=false) (hle:off+b.ty.size<=cv.ty.size) (h3:look (outSt c y).bx k=some (.rw ⟨b.ty,xv,s⟩)) (h4:look (inSt c x).bx k=some (.rw ⟨b.ty,xv0,b.sin⟩)) {b' o:Nat} (hin:inBox M id cv.ty b' o) :
  (reg (outSt c y) Mc (.b k) b' o/\calleeN (inSt c x) M m b' o/\(M.box id).2+off<=o/\o<(M.box id).2+off+b.ty.size) \/
  (reg (outSt c y) Mc (.s 0) b' o/\¬ calleeN (inSt c x) M m b' o/\(o<(M.box id).2+off\/(M.box id).2+off+b.ty.size<=o)):=by
 have hstd:=std_ms (B.hw.std b hbm)
 have hreg:reg st1 M (.b id) b' o:=⟨cv,h2,hin⟩
 have hin':=(inBox.plain hms).1 hin
 by_cases hpart:(M.box id).2+off<=o/\o<(M.box id).2+off+b.ty.size
 ·left
  refine⟨⟨_,h3,(inBox.plain hstd.1).2 ?_⟩,⟨.b k,fun e=>(by cases e),_,h4,(inBox.plain hstd.1).2 ?_⟩,hpart⟩
  ·rw[B.hbox k hk,McOf_ok.bm _ _ _ _ h1]
   exact⟨hin'.1,hpart.1,hpart.2⟩
  ·rw[McOf_ok.bm _ _ _ _ h1]
   exact⟨hin'.1,hpart.1,hpart.2⟩
 ·right
  have hn:¬ calleeN (inSt c x) M m b' o:=by
   intro hc
   rcases B.own_in hc with⟨n,id',q,v,g1,g2,g,v2,g3,g4⟩ | ⟨j,t,_,g⟩
   ·have:=B.h.dis _ _ _ _ hreg g
    cases this
    have:=B.hi.bm _ _ _ _ _ g1 h1
    subst this
    rw[h4] at g3
    cases g3
    rw[inBox.plain hstd.1,McOf_ok.bm _ _ _ _ h1] at g4
    exact hpart ⟨g4.2.1,g4.2.2⟩
   ·have:=B.h.dis _ _ _ _ hreg g;cases this
  exact⟨B.out_s hreg hn,hn,by omega⟩
end
end Go.VX
/- VX, part 38: the caller's state behind a call: the whole. -/
set_option linter.unusedVariables false
set_option linter.unusedSimpArgs false
namespace Go.VX
theorem tup_ms{t:Ty} (h:isMs t=false):t.tup=false:=by cases t<;>first | rfl | cases h
theorem outBxN_tup:∀ {nb:List (Nat×Ty×Sh)} {x:(tuL (nbL nb)).D} {n:Nat} {v:Vl},(n,.rw v)∈outBxN nb x->(∀ b∈nb,b.2.1.std=true)->v.ty.tup=false
 | [],x,n,v,h,_=>by simp [outBxN] at h
 | (j,t,s)::nb,x,n,v,h,hs=>by
  rcases List.mem_cons.1 h with e | h
  ·cases e;exact(std_ms (hs _ List.mem_cons_self)).2
  ·exact outBxN_tup h fun b hb=>hs b (List.mem_cons_of_mem _ hb)
theorem outBx_tup:∀ {bs:List BoxS} {nb:List (Nat×Ty×Sh)} {i:Nat} {x:(tuL (outL bs nb)).D} {n:Nat} {v:Vl},(n,.rw v)∈outBx bs nb i x->(∀ b∈bs,b.ty.std=true)->(∀ b∈nb,b.2.1.std=true)->v.ty.tup=false
 | [],nb,i,x,n,v,h,_,hn=>outBxN_tup h hn
 | ⟨t,si,some s⟩::bs,nb,i,x,n,v,h,hs,hn=>by
  rcases List.mem_cons.1 h with e | h
  ·cases e;exact(std_ms (hs _ List.mem_cons_self)).2
  ·exact outBx_tup h (fun b hb=>hs b (List.mem_cons_of_mem _ hb)) hn
 | ⟨t,si,none⟩::bs,nb,i,x,n,v,h,hs,hn=>outBx_tup (bs:=bs) h (fun b hb=>hs b (List.mem_cons_of_mem _ hb)) hn
theorem outSt_tup{c:Con} (hw:WfC c) {y:c.R.D} {k:Nat} {v:Vl} (h:look (outSt c y).bx k=some (.rw v)):v.ty.tup=false:=by
 rcases List.mem_append.1 (look_mem h) with h | h
 ·refine outBx_tup h hw.std fun b hb=>?_
  have:=hw.out
  simp only[wfO,Bool.and_eq_true,List.all_eq_true] at this
  exact(this.1.2 b hb).1
 ·obtain⟨k,e,xv,g1,g2,g3,g4⟩:=msOf_mem 0 _ _ _ h
  cases g2
  rfl
section
variable {P:Program} {w0:World} {I:Own} {nt:Nat} {U:Nat->Prop} {M:Mp} {st st1:St} {a:Act} {w:World} {m:Mt} {c:Con} {x:c.I.D} {y:c.R.D} {Mc:Mp} {v:Value} {w':World} {base:Nat} {l:List (Nat×Bx)}
structure Aft (st1:St) (m:Mt) (c:Con) (y:c.R.D) (base:Nat) (l:List (Nat×Bx)) (dst:Option Tmp) (pv:Option Vl) (st':St):Prop where
 bx:∀ n z,look st'.bx n=some z->(n,z)∈l++msOf base c.B (conOut c.B (outL c.bs c.nb) y).1 c.bsh\/((∀ z,(n,z) ∉ l++msOf base c.B (conOut c.B (outL c.bs c.nb) y).1 c.bsh)/\look st1.bx n=some z)
 tk:∀ k,look st'.tk k=some true->(∃ j,k=base+j/\look (outSt c y).tk j=some true)\/(look st1.tk k=some true/\∀ j,look m.tm j≠some (some k))
 sl:∀ n,look st'.sl n=if dst=some n then some pv else look st1.sl n
theorem Back.renOk(B:Back P w0 I nt U M st st1 a w m c x y Mc v w' base l):RenOk Mc (MpAft M Mc base (c.fr+1)) m base c.fr:=by
 refine⟨fun k id p off hk=>?_,fun k hk=>(MpAft_new (by omega)).1,fun k hk=>(MpAft_new (by omega)).2.1,fun k hk=>(MpAft_new (by omega)).2.2⟩
 have hkl:=B.keys k _ hk
 rw[B.hbox k hkl,McOf_ok.bm _ _ _ _ hk]
 have hU:U id:=by
  have hbk:∀ (bs:List BoxS) (i:Nat) (s:(boxT bs).D),BoxesIn st m bs i s->i<=k->k<i+bs.length->∃ b xv,b∈bs/\BoxIn st m k b xv:=by
   intro bs
   induction bs with
   | nil=>intro i s _ h1 h2;simp at h2;omega
   | cons b bs ih =>
    intro i s hb h1 h2
    by_cases e:i=k
    ·subst e;exact⟨b,_,List.mem_cons_self,hb.1⟩
    ·obtain⟨b',xv,g1,g2⟩:=ih (i+1) s.2 hb.2 (by omega) (by simp at h2;omega)
     exact⟨b',xv,List.mem_cons_of_mem _ g1,g2⟩
  obtain⟨b,xv,hb1,hb2⟩:=hbk c.bs 0 _ B.hb (Nat.zero_le _) (by omega)
  obtain⟨id',q,off',cv,s',mi,mi',e1,e2,e3,e4,_⟩:=boxIn_rep B.h B.hp (B.hw.std b hb1) hb2
  rw[hk] at e1
  cases e1
  rcases e2 with e2 | ⟨_,z,e2⟩
  ·exact(B.h.bx _ _ e2).2.2
  ·exact(B.h.ro _ _ _ e2).2.2
 have:=(MpAft_agree (M:=M) (Mc:=Mc) B.fresh).2 id hU
 rw[this.1]
theorem Back.new_lt(B:Back P w0 I nt U M st st1 a w m c x y Mc v w' base l) {dst:Option Tmp} {pv:Option Vl} {st':St} (A:Aft st1 m c y base l dst pv st') {n:Nat} {z:Bx}
  (h:(n,z)∈l++msOf base c.B (conOut c.B (outL c.bs c.nb) y).1 c.bsh) :
  (∃ (k:Nat) (b:BoxS) (s:Sh) (xv0 xv:b.ty.D) (p:List Nat) (off:Nat) (cv c':Vl) (sh:Sh),b∈c.bs/\k<c.bs.length/\b.sout=some s/\look m.bm k=some (n,p,off)/\look st1.bx n=some (.rw cv)/\isMs cv.ty=false/\off+b.ty.size<=cv.ty.size /\
   getP cv p=some ⟨b.ty,xv0,sh⟩/\offP cv.ty p=some off/\setP cv p ⟨b.ty,xv,ren m base s⟩=some c'/\z=.rw c'/\look (outSt c y).bx k=some (.rw ⟨b.ty,xv,s⟩)/\look (inSt c x).bx k=some (.rw ⟨b.ty,xv0,b.sin⟩)) \/
  (∃ (k:Nat) (t:Ty) (s:Sh) (xv:t.D),c.bs.length<=k/\k<c.fr/\n=base+k/\z=.rw ⟨t,xv,ren m base s⟩/\look (outSt c y).bx k=some (.rw ⟨t,xv,s⟩)):=by
 rcases List.mem_append.1 h with h | h
 ·rcases outs_mem B.outs B.hb h with⟨k,b,s,xv0,xv,p,off,cv,c',g1,g2,g3,g4,g5,g6,g7,g8,g9,g10,g11⟩ | ⟨j,t,s,xv,g1,g2,g3,g4⟩
  ·left
   obtain⟨id',q,off',cv',s',mi,mi',e1,e2,e3,e4,e5,e6,_⟩:=boxIn_rep B.h B.hp (B.hw.std b g1) g5
   rw[g6] at e1
   cases e1
   have hcv:look st1.bx n=some (.rw cv'):=by
    rcases e2 with e2 | ⟨e2,_⟩
    ·exact e2
    ·rw[g4] at e2;cases e2
   have:cv=cv':=by
    obtain⟨id2,q2,off2,cv2,v2,mi2,mi2',f1,f2,f3,f4,f5,_⟩:=g5
    rw[g6] at f1
    cases f1
    rcases f2 with f2 | ⟨f2,_⟩
    ·rw[g7] at f2
     cases f2
     by_cases hm:isMs cv.ty=true
     ·
      have hst:=castTo_vl f5
      have hty:=congrArg (fun v:Vl=>v.ty) hst
      dsimp only at hty
      rw[msP f3 (by rw[hty];exact ms_std (B.hw.std b g1))] at hm
      cases hm
     ·have:=B.hp.rw n cv (by simpa using hm) g7
      rw[hcv] at this
      cases this
      rfl
    ·rw[g4] at f2;cases f2
   subst this
   exact⟨k,b,s,xv0,xv,p,off,cv,c',s',g1,by omega,g4,g6,hcv,e3,e4,e5,e6,g8,g9,outSt_look B.hw (.inl g10),g11⟩
  ·right
   obtain⟨k1,k2⟩:=new_ge B.hw (List.mem_append_left _ g4)
   exact⟨j,t,s,xv,k1,k2,g1,g2,outSt_look B.hw (.inl g3)⟩
 ·right
  obtain⟨k,e,xv,g1,g2,g3,g4⟩:=msOf_mem base _ _ _ h
  obtain⟨k1,k2⟩:=new_ge B.hw (List.mem_append_right _ g4)
  refine⟨k,.ms e,.o,xv,k1,k2,g1,g2,?_⟩
  rw[g2] at g3
  exact outSt_look B.hw (.inr g3)
theorem Back.cover(B:Back P w0 I nt U M st st1 a w m c x y Mc v w' base l) {dst:Option Tmp} {pv:Option Vl} {st':St} (A:Aft st1 m c y base l dst pv st') {l0:Loc} {b o:Nat} (hr:reg st' (MpAft M Mc base (c.fr+1)) l0 b o) :
  (reg st1 M l0 b o/\∃ lc,reg (outSt c y) Mc lc b o/\(lc=.s 0\/∃ n,n<c.bs.length/\lc=.b n)) \/
  (∃ k,c.bs.length<=k/\k<c.fr/\l0=.b (base+k)/\reg (outSt c y) Mc (.b k) b o)\/(∃ j,l0=.t (base+j)/\reg (outSt c y) Mc (.t j) b o):=by
 have hM:=MpAft_agree (M:=M) (Mc:=Mc) B.fresh
 cases l0 with
 | s n =>
  cases n with
  | zero =>
   have h1:reg st1 M (.s 0) b o:=hr
   exact .inl ⟨h1,_,B.out_s h1 (B.not_s h1),.inl rfl⟩
  | succ n=>exact hr.elim
 | b n =>
  obtain⟨v',hv,hin⟩:=hr
  rcases A.bx n _ hv with hm | ⟨hnm,hv⟩
  ·rcases B.new_lt A hm with⟨k,bb,s,xv0,xv,p,off,cv,c',sh,g1,g2,g3,g4,g5,g6,g7,g8,g9,g10,g11,g12,g13⟩ | ⟨k,t,s,xv,g1,g2,g3,g4,g5⟩
   ·cases g11
    obtain⟨hb1,hb2,hb3⟩:=B.h.bx _ _ g5
    have hms':=setP_ms g10 (std_ms (B.hw.std bb g1)).1
    have hin1:inBox M n v'.ty b o:=(inBox_congr (hM.2 n hb3).1 (hM.2 n hb3).2.2).1 hin
    have hsz:v'.ty.size=cv.ty.size:=by
     obtain⟨ht,cs,rc,_⟩:=(BoxOk.plain g6).1 hb1
     obtain⟨hq1,hq2⟩:=(B.hout.bx _ _ g12)
     obtain⟨ht2,cs2,rc2,_⟩:=(BoxOk.plain (std_ms (B.hw.std bb g1)).1).1 hq1
     have hx:Ext (own st1 M) w w':=B.keepsN.ext.mono fun b o _ hc=>by obtain⟨l,_,hl⟩:=B.sub hc;exact⟨l,hl⟩
     have rc3:=rc.mono P (O':=noOwn) _ hx (fun _ _ _ h=>h.elim) (hM.sh _ hb2)
     have ru:=ren_rep (O':=noOwn) (fun _ _ _ h=>h.elim) B.renOk _ rc2 hq2.1
     exact(setP_rep p rc3 ht g10 ru ht2 g9).2.1
    have hin2:inBox M n cv.ty b o:=by
     rw[inBox.plain hms'] at hin1
     rw[inBox.plain g6]
     omega
    left
    refine⟨⟨cv,g5,hin2⟩,?_⟩
    rcases B.passed g1 g2 g3 g4 g5 g6 g7 g12 g13 hin2 with⟨f1,_⟩ | ⟨f1,_⟩
    ·exact⟨_,f1,.inr ⟨k,g2,rfl⟩⟩
    ·exact⟨_,f1,.inl rfl⟩
   ·cases g4
    subst g3
    right;left
    exact⟨k,g1,g2,rfl,_,g5,(ren_inBox B.renOk g2).1 hin⟩
  ·left
   have hb3:=(B.h.bx _ _ hv).2.2
   have hin1:inBox M n v'.ty b o:=(inBox_congr (hM.2 n hb3).1 (hM.2 n hb3).2.2).1 hin
   have h1:reg st1 M (.b n) b o:=⟨v',hv,hin1⟩
   exact⟨h1,_,B.out_s h1 (B.not_b h1 fun z hz=>hnm z (List.mem_append_left _ hz)),.inl rfl⟩
 | t k =>
  obtain⟨hk,hin⟩:=hr
  rcases A.tk k hk with⟨j,e,hj⟩ | ⟨hk,hn⟩
  ·subst e
   right;right
   have hjt:=B.renOk.tok j (B.hout.tk j hj)
   exact⟨j,rfl,hj,by unfold inTok at hin ⊢;rw[hjt] at hin;exact hin⟩
  ·left
   have h1:reg st1 M (.t k) b o:=⟨hk,(inTok_congr (hM.2 k (B.h.tk k hk)).2.1).1 hin⟩
   exact⟨h1,_,B.out_s h1 (B.not_t h1 hn),.inl rfl⟩
theorem Back.rel(B:Back P w0 I nt U M st st1 a w m c x y Mc v w' base l) {dst:Option Tmp} (hd:∀ d,dst=some d->d<nt) {pv:Option Vl} {st':St} (A:Aft st1 m c y base l dst pv st')
  (hpv:∀ u,pv=some u->u=⟨c.B,(conOut c.B (outL c.bs c.nb) y).1,ren m base c.bsh⟩/\look (outSt c y).sl 0=some (some ⟨c.B,(conOut c.B (outL c.bs c.nb) y).1,c.bsh⟩)) :
  Rel P w0 I nt (fun k=>U k\/(base<=k/\k<base+(c.fr+1))) (MpAft M Mc base (c.fr+1)) st' (a.put dst v) w':=by
 have hM:=MpAft_agree (M:=M) (Mc:=Mc) B.fresh
 have hR:=B.renOk
 have hx:Ext (own st1 M) w w':=B.keepsN.ext.mono fun b o _ hc=>by obtain⟨l,_,hl⟩:=B.sub hc;exact⟨l,hl⟩
 have hxN:Ext (ownN st1 M) w w':=B.keepsN.ext.mono fun b o _ hc=>B.sub hc
 have hsub:∀ b o,own st' (MpAft M Mc base (c.fr+1)) b o->own (outSt c y) Mc b o:=by
  rintro b o ⟨l0,hl⟩
  rcases B.cover A hl with⟨_,lc,h1,_⟩ | ⟨k,_,_,_,h1⟩ | ⟨j,_,h1⟩
  ·exact⟨_,h1⟩
  ·exact⟨_,h1⟩
  ·exact⟨_,h1⟩
 have hold:∀ lc b o,reg (outSt c y) Mc lc b o->lc≠.s 0->w.heap.size<=b\/calleeN (inSt c x) M m b o:=by
  intro lc b o hl hne
  rcases (B.hout.live b o ⟨lc,hl⟩).2.2 with h1 | h1 | h1
  ·exact .inl h1
  ·right;rw[ownN_McOf] at h1;exact h1
  ·exact(hne (B.hout.dis _ _ _ _ hl (show reg (outSt c y) Mc (.s 0) b o from h1))).elim
 have hoN:∀ b o,b<w.heap.size->ownN st' (MpAft M Mc base (c.fr+1)) b o->ownN st1 M b o:=by
  rintro b o hb ⟨l0,h0,hl⟩
  rcases B.cover A hl with⟨h1,_⟩ | ⟨k,_,_,_,h1⟩ | ⟨j,_,h1⟩
  ·exact⟨l0,h0,h1⟩
  ·rcases hold _ _ _ h1 (fun e=>by cases e) with h2 | h2
   ·omega
   ·exact B.sub h2
  ·rcases hold _ _ _ h1 (fun e=>by cases e) with h2 | h2
   ·omega
   ·exact B.sub h2
 have ho:∀ b o,b<w.heap.size->own st' (MpAft M Mc base (c.fr+1)) b o->own st1 M b o:=by
  rintro b o hb ⟨l0,hl⟩
  by_cases e:l0=.s 0
  ·subst e;exact⟨.s 0,hl⟩
  ·obtain⟨l1,_,h1⟩:=hoN b o hb ⟨l0,e,hl⟩
   exact⟨l1,h1⟩
 refine B.h.upd (fun k hk=>.inl hk) hM hx ho (fun n u hn=>?_) (fun id u hu=>?_) hxN hoN (fun id z u hu=>?_) (fun k hk=>?_) (fun b o hbo=>?_) (fun l1 l2 b o h1 h2=>?_) (B.h.keep.trans B.keepsN fun b o hb hc=>?_) (by rw[put_size];exact B.h.size) (by rw[put_defers];exact B.h.defs) (B.h.obj_keep B.keepsN) (fun id u hu ht=>by
  rcases A.bx id _ hu with hm | ⟨hnm,hv⟩
  ·rcases B.new_lt A hm with⟨k,bb,s,xv0,xv,p,off,cv,c',sh,g1,g2,g3,g4,g5,g6,g7,g8,g9,g10,g11,g12,g13⟩ | ⟨k,t,s,xv,g1,g2,g3,g4,g5⟩
   ·cases g11
    rw[tup_ms (setP_ms g10 (std_ms (B.hw.std bb g1)).1)] at ht
    cases ht
   ·cases g4
    have:=outSt_tup B.hw g5
    dsimp only at this ht
    rw[this] at ht
    cases ht
  ·exact hv)
 ·rw[A.sl] at hn
  split at hn
  ·rename_i e
   right
   obtain⟨rfl,hl⟩:=hpv u (Option.some.inj hn)
   obtain⟨r,hs⟩:=B.hout.sl 0 _ hl
   rw[e,put_getD_same (by rw[B.h.size];exact hd n e)]
   refine⟨ren_repV (fun b o _=>hsub b o) hR (by simpa [Array.getD_eq_getD_getElem?] using r) hs,ren_in (U:=U) (fun k id q hk=>?_) (fun k hk=>.inr ⟨by omega,by omega⟩) _ hs⟩
   left
   have hkl:=B.keys k _ hk
   have hbk:∀ (bs:List BoxS) (i:Nat) (s:(boxT bs).D),BoxesIn st m bs i s->i<=k->k<i+bs.length->∃ b xv,b∈bs/\BoxIn st m k b xv:=by
    intro bs
    induction bs with
    | nil=>intro i s _ h1 h2;simp at h2;omega
    | cons b bs ih =>
     intro i s hb h1 h2
     by_cases e:i=k
     ·subst e;exact⟨b,_,List.mem_cons_self,hb.1⟩
     ·obtain⟨b',xv,g1,g2⟩:=ih (i+1) s.2 hb.2 (by omega) (by simp at h2;omega)
      exact⟨b',xv,List.mem_cons_of_mem _ g1,g2⟩
   obtain⟨b,xv,hb1,hb2⟩:=hbk c.bs 0 _ B.hb (Nat.zero_le _) (by omega)
   obtain⟨id',q',off',cv,s',mi,mi',e1,e2,e3,e4,_⟩:=boxIn_rep B.h B.hp (B.hw.std b hb1) hb2
   rw[hk] at e1
   cases e1
   rcases e2 with e2 | ⟨_,z,e2⟩
   ·exact(B.h.bx _ _ e2).2.2
   ·exact(B.h.ro _ _ _ e2).2.2
  ·rename_i e
   exact .inl ⟨hn,put_getD e⟩
 ·have hinU:∀ s,ShIn (·<c.fr) s->ShIn (fun k=>U k\/(base<=k/\k<base+(c.fr+1))) (ren m base s):=fun s hs=>ren_in (U:=U) (fun k id q hk=>by
   left
   have hR2:=hR.old k id q.1 q.2 hk
   have hkl:=B.keys k _ hk
   have hbk:∀ (bs:List BoxS) (i:Nat) (s:(boxT bs).D),BoxesIn st m bs i s->i<=k->k<i+bs.length->∃ b xv,b∈bs/\BoxIn st m k b xv:=by
    intro bs
    induction bs with
    | nil=>intro i s _ h1 h2;simp at h2;omega
    | cons b bs ih =>
     intro i s hb h1 h2
     by_cases e:i=k
     ·subst e;exact⟨b,_,List.mem_cons_self,hb.1⟩
     ·obtain⟨b',xv,g1,g2⟩:=ih (i+1) s.2 hb.2 (by omega) (by simp at h2;omega)
      exact⟨b',xv,List.mem_cons_of_mem _ g1,g2⟩
   obtain⟨b,xv,hb1,hb2⟩:=hbk c.bs 0 _ B.hb (Nat.zero_le _) (by omega)
   obtain⟨id',q',off',cv,s',mi,mi',e1,e2,e3,e4,_⟩:=boxIn_rep B.h B.hp (B.hw.std b hb1) hb2
   rw[hk] at e1
   cases e1
   rcases e2 with e2 | ⟨_,z,e2⟩
   ·exact(B.h.bx _ _ e2).2.2
   ·exact(B.h.ro _ _ _ e2).2.2) (fun k hk=>.inr ⟨by omega,by omega⟩) _ hs
  rcases A.bx id _ hu with hm | ⟨hnm,hv⟩
  ·right
   rcases B.new_lt A hm with⟨k,bb,s,xv0,xv,p,off,cv,c',sh,g1,g2,g3,g4,g5,g6,g7,g8,g9,g10,g11,g12,g13⟩ | ⟨k,t,s,xv,g1,g2,g3,g4,g5⟩
   ·cases g11
    obtain⟨hb1,hb2,hb3⟩:=B.h.bx _ _ g5
    have hstd:=std_ms (B.hw.std bb g1)
    have hms':=setP_ms g10 hstd.1
    obtain⟨ht,cs,rc,kc⟩:=(BoxOk.plain g6).1 hb1
    obtain⟨hq1,hq2,hq3⟩:=(B.hout.bx _ _ g12)
    obtain⟨ht2,us,ru,ku⟩:=(BoxOk.plain hstd.1).1 hq1
    have rc3:=rc.mono P (O':=own st' (MpAft M Mc base (c.fr+1))) _ hx ho (hM.sh _ hb2)
    have ru3:=ren_rep (fun b o _=>hsub b o) hR _ ru hq2
    obtain⟨k1,k2,k3,k4,k5⟩:=setP_rep p rc3 ht g10 ru3 ht2 g9
    have hul:=ru.len ht2
    have hcl:=rc.len ht
    refine⟨(BoxOk.plain hms').2 ⟨k4,_,k1,fun j u hj=>?_⟩,setP_in _ _ _ _ g10 (hb2.mono (fun k hk=>.inl hk) _) (hinU _ hq2),.inl hb3⟩
    rw[(hM.2 id hb3).1]
    rw[splice_get k5] at hj
    have hboxk:Mc.box k=((M.box id).1,(M.box id).2+off):=by rw[B.hbox k g2,McOf_ok.bm _ _ _ _ g4]
    dsimp only at hul
    split at hj
    ·rename_i hpart
     have:=ku (j-off) u hj
     rw[hboxk] at this
     dsimp only at this
     rw[show(M.box id).2+off+(j-off)=(M.box id).2+j by omega] at this
     exact this
    ·rename_i hpart
     rw[← kc j u hj]
     have hjl:j<cv.ty.size:=by rw[← hcl];exact(List.getElem?_eq_some_iff.1 hj).1
     have hin:inBox M id cv.ty (M.box id).1 ((M.box id).2+j):=(inBox.plain g6).2 ⟨rfl,by omega,by omega⟩
     rcases B.passed g1 g2 g3 g4 g5 g6 g7 g12 g13 hin with⟨_,_,f3,f4⟩ | ⟨_,f2,_⟩
     ·omega
     ·exact B.keep_cell (l0:=.b id) ⟨cv,g5,hin⟩ f2
   ·cases g4
    subst g3
    obtain⟨hq1,hq2,hq3⟩:=B.hout.bx _ _ g5
    exact⟨ren_box (fun b o _=>hsub b o) hR g2 hq1 hq2,hinU _ hq2,.inr ⟨by omega,by omega⟩⟩
  ·left
   refine⟨hv,fun b o hin=>?_⟩
   have h1:reg st1 M (.b id) b o:=⟨u,hv,hin⟩
   exact B.keep_cell h1 (B.not_b h1 fun z hz=>hnm z (List.mem_append_left _ hz))
 ·rcases A.bx id _ hu with hm | ⟨hnm,hv⟩
  ·rcases B.new_lt A hm with⟨k,bb,s,xv0,xv,p,off,cv,c',sh,g1,g2,g3,g4,g5,g6,g7,g8,g9,g10,g11,g12,g13⟩ | ⟨k,t,s,xv,g1,g2,g3,g4,g5⟩
   ·cases g11
   ·cases g4
  ·exact .inl hv
 ·rcases A.tk k hk with⟨j,e,hj⟩ | ⟨hk,hn⟩
  ·subst e
   have:=B.hout.tk j hj
   exact .inr ⟨by omega,by omega⟩
  ·exact .inl (B.h.tk k hk)
 ·obtain⟨l0,hl⟩:=hbo
  rcases B.cover A hl with⟨h1,lc,h2,_⟩ | ⟨k,_,_,_,h1⟩ | ⟨j,_,h1⟩
  ·obtain⟨f1,f2,f3⟩:=B.h.live b o ⟨l0,h1⟩
   exact⟨B.keepsN.isSome b o f1,B.keepsN.cleanF b (B.h.own_lt ⟨l0,h1⟩) f2,f3⟩
  ·obtain⟨f1,f2,_⟩:=B.hout.live b o ⟨_,h1⟩
   refine⟨f1,f2,?_⟩
   rcases hold _ _ _ h1 (fun e=>by cases e) with h2 | h2
   ·exact .inl (Nat.le_trans B.h.keep.size h2)
   ·obtain⟨l2,_,hl2⟩:=B.sub h2
    exact(B.h.live b o ⟨l2,hl2⟩).2.2
  ·obtain⟨f1,f2,_⟩:=B.hout.live b o ⟨_,h1⟩
   refine⟨f1,f2,?_⟩
   rcases hold _ _ _ h1 (fun e=>by cases e) with h2 | h2
   ·exact .inl (Nat.le_trans B.h.keep.size h2)
   ·obtain⟨l2,_,hl2⟩:=B.sub h2
    exact(B.h.live b o ⟨l2,hl2⟩).2.2
 ·rcases B.cover A h1 with⟨f1,lc,f2,f3⟩ | ⟨k,f0,_,f1,f2⟩ | ⟨j,f1,f2⟩<;>rcases B.cover A h2 with⟨g1,lc',g2,g3⟩ | ⟨k',g0,_,g1,g2⟩ | ⟨j',g1,g2⟩
  ·exact B.h.dis _ _ _ _ f1 g1
  ·have:=B.hout.dis _ _ _ _ f2 g2
   subst this
   rcases f3 with f3 | ⟨n,hn,f3⟩
   ·cases f3
   ·cases f3;omega
  ·have:=B.hout.dis _ _ _ _ f2 g2
   subst this
   rcases f3 with f3 | ⟨n,hn,f3⟩<;>cases f3
  ·have:=B.hout.dis _ _ _ _ f2 g2
   subst this
   rcases g3 with g3 | ⟨n,hn,g3⟩
   ·cases g3
   ·cases g3;omega
  ·have:=B.hout.dis _ _ _ _ f2 g2
   cases this
   rw[f1,g1]
  ·have:=B.hout.dis _ _ _ _ f2 g2;cases this
  ·have:=B.hout.dis _ _ _ _ f2 g2
   subst this
   rcases g3 with g3 | ⟨n,hn,g3⟩<;>cases g3
  ·have:=B.hout.dis _ _ _ _ f2 g2;cases this
  ·have:=B.hout.dis _ _ _ _ f2 g2
   cases this
   rw[f1,g1]
 ·obtain⟨l2,hl0,hl2⟩:=B.sub hc
  rcases (B.h.live b o ⟨l2,hl2⟩).2.2 with h1 | h1 | h1
  ·omega
  ·exact h1
  ·exact(hl0 (B.h.dis _ _ _ _ hl2 (show reg st1 M (.s 0) b o from h1))).elim
end
end Go.VX
/- VX, part 60: slices.Insert, the operation. -/
set_option linter.unusedVariables false
set_option linter.unusedSimpArgs false
namespace Go.VX
theorem chunk_take{cs:List Value} {sz i k:Nat} (h:k<i):((cs.take (i*sz)).drop (k*sz)).take sz=(cs.drop (k*sz)).take sz:=by
 have:(k+1)*sz<=i*sz:=Nat.mul_le_mul_right _ h
 rw[Nat.succ_mul] at this
 rw[List.drop_take,List.take_take]
 congr 1
 omega
theorem chunk_drop{cs:List Value} {sz i k:Nat}:((cs.drop (i*sz)).drop (k*sz)).take sz=(cs.drop ((i+k)*sz)).take sz:=by
 rw[List.drop_drop,Nat.add_mul]
theorem ok_ins{P:Program} {E:Env} (hE:EnvOk P E) {o:Oper} {c:Call} (ho:o.op=.call c) {f:FuncId} (hc:c.callee=.value (.func f)) {t:Nat} (hf:look E.ins f=some t) {x ix y:Operand} (hargs:c.args.toList=[x,ix,y])
  {w0:World} {I:Own} {nt:Nat} {U:Nat->Prop} {M:Mp} {st:St} {a:Act} {w:World} {id:Nat} (h:Rel P w0 I nt U M st a w) (hd:∀ d,o.dst=some d->d<nt) {ω:Bool} {p:Patch} {fl:List Loc} (hg:Goes st ω (evIns E id t x ix y) p fl)
  (hfr:∀ k,id<=k->k<id+p.fr->¬ U k) :
  StepOk P o a w fun v w'=>∃ M',Agree U M M'/\Rel P w0 I nt (fun k=>U k\/(id<=k/\k<id+p.fr)) M' (st.patch o.dst p) (a.put o.dst v) w':=by
 unfold evIns at hg
 obtain⟨v,_,hv,hg,_⟩:=goes_opd hg
 obtain⟨vj,_,hj,hg,_⟩:=goes_opd hg
 obtain⟨u0,_,hu0,hg,_⟩:=goes_opd hg
 obtain⟨ru0,su0⟩:=opd_rep hE h hu0
 obtain⟨rj,_⟩:=opd_rep hE h hj
 obtain⟨u,ds,_,hg,hrel,ry,sy,hpl,hty',hdead,_,hds⟩:=asVal_ok h hg ru0 su0 (fun _ _ _ _ _ _ h=>h)
 have hv1:Opd { st with bx:=putL ds st.bx } E x (look E.ty t) v:=hv
 obtain⟨rx,sx⟩:=opd_rep hE hrel hv1
 obtain⟨tv,l,s⟩:=v
 cases tv with
 | sl e =>
  cases s with
  | mref k =>
   obtain⟨tj,jn,sj⟩:=vj
   cases tj with
   | int kj =>
    cases kj with
    | i64 =>
     dsimp only at hg rx rj
     obtain⟨ej,_,_⟩:=rep_int rj
     split at hg
     ·rename_i l' lim hl' hlim'
      split at hlim'<;>try cases hlim'
      rename_i hty
      have hlim:=hlim'
      simp only[Bool.and_eq_true,decide_eq_true_eq] at hty
      obtain⟨hty,hsz⟩:=hty
      have hsz0:0<e.size:=Nat.lt_of_lt_of_le (Nat.le_of_ble_eq_true hsz) (Nat.le_refl _)
      obtain⟨tu,vu,su⟩:=u
      obtain⟨e2,rfl⟩:=castTo_eq hl'
      dsimp only at e2
      subst e2
      obtain⟨et,hun,hec,hem⟩:=chk_sl (hE.ty _ _ hty)
      have hi:=chk_info hec (mem_std hem)
      obtain⟨e2,xi,q1,q2,q3,q4⟩:=hE.lim _ _ hlim
      rw[hun] at q1
      cases q1
      obtain⟨et',tI,fo,sz,xi',r1,r2,W⟩:=hE.ins _ _ hf
      have hud:=W.und
      rw[hun] at hud
      cases hud
      rw[q2] at r1
      cases r1
      obtain⟨_,xi',_,hx',_,hs',_⟩:=infoB_spec hi
      rw[q2] at hx'
      cases hx'
      have hszz:e.size=sz:=by rw[← hs',r2]
      subst hszz
      obtain⟨pa,n,cp,x1,x2,x3,x4,x5⟩:=rep_sl rx
      dsimp only[SlSh] at x5
      obtain⟨cb,_,hcb,hg,_⟩:=goes_rdW hg
      split at hg
      ·rename_i l0 hl0 hnk
       obtain⟨r,hr,hg⟩:=goes_eff hg
       have hid:¬ U id:=hfr id (Nat.le_refl _) (by cases hg;show id<id+1;omega)
       cases hg
       obtain⟨tc,vc,sc⟩:=cb
       obtain⟨e3,rfl⟩:=castTo_eq hl0
       dsimp only at e3
       subst e3
       have hfree:=ds_free hds su0 hid
       have hcb1:look ({ st with bx:=putL ds st.bx }:St).bx k=some (.rw ⟨.ms e,vc,sc⟩):=(look_dead_f hnk).trans hcb
       obtain⟨hbox,_,hUk⟩:=hrel.bx _ _ hcb1
       have hkid:k≠id:=fun e=>hid (e ▸ hUk)
       have hbox':=hbox
       obtain⟨t0,a',n',c',k1,k2,k3,k4,k5⟩:=hbox'
       rw[x5] at k1
       cases k1
       have hkr:∀ p,pa=some p->∀ o',p.2<=o'->o'<p.2+cp*e.size->reg { st with bx:=putL ds st.bx } M (.b k) p.1 o':=fun p hp o' h1 h2 =>
        ⟨_,hcb1,p.2,by rw[x5];exact hp,h1,by rw[x5];exact h2⟩
       unfold insL at hr
       split at hr
       ·rename_i hle
        cases hr
        have hle':(0:Int)<=jn/\(jn:Int)<=(List.length vc:Int)/\0<List.length vu/\List.length vc+List.length vu<=lim:=hle
        obtain⟨i,hji⟩:∃ i:Nat,(jn:Int)=(i:Int):=⟨Int.toNat jn,(Int.toNat_of_nonneg hle'.1).symm⟩
        clear hle
        obtain⟨_,hle2,hm,hlen⟩:=hle'
        have hin:i<=List.length vc:=by rw[hji] at hle2;exact Int.ofNat_le.1 hle2
        have htn:Int.toNat jn=i:=by rw[hji];exact Int.toNat_natCast i
        obtain⟨pb,n2,c2,ey,f2,f3,f4,f5⟩:=rep_sl ry
        have hEy:=slSh_plain f5 hpl
        obtain⟨yb,ey,hya,hyn⟩:=ey.valApp
        have f2':n2=List.length vu:=f2
        obtain⟨q,rfl⟩:∃ q,pb=some q:=by
         cases pb with
         | none=>have:=f4 rfl;have:=f3.1;omega
         | some q=>exact⟨q,rfl⟩
        obtain⟨p',rfl⟩:∃ p',yb=some p':=by
         cases yb with
         | none=>have:=hyn rfl;cases this
         | some p'=>exact⟨p',rfl⟩
        have hpq:p'=adr q:=by
         rcases hya p' rfl with h0 | ⟨q',hq',h1⟩
         ·have:=f3.1;omega
         ·cases hq';exact h1
        subst hpq
        obtain⟨O,hO⟩:∃ O,O=own { st with bx:=putL ds st.bx } M:=⟨_,rfl⟩
        have hold:∃ olds:List Value,olds.length=List.length vc*e.size/\(∀ p,pa=some p->∀ (j:Nat) u,olds[j]?=some u->w.cell? ⟨p.1,p.2+j,none⟩=some u) /\
          ∀ (i:Nat) y,vc[i]?=some y->RepC P e w O M y .o ((olds.drop (i*e.size)).take e.size):=by
         cases hpa:pa with
         | none =>
          have h0:=x4 hpa
          have:vc=[]:=List.eq_nil_of_length_eq_zero (by have:=x3.1;omega)
          rw[this]
          exact⟨[],by simp,fun p hp=>(by cases hp),fun i y hy=>by simp at hy⟩
         | some p =>
          obtain⟨olds,o1,o2⟩:=gather vc (fun i es=>∀ j u,es[j]?=some u->w.cell? ⟨p.1,p.2+i*e.size+j,none⟩=some u) (fun y es=>RepC P e w O M y .o es) (by rw[hO];exact row_elems hbox (by rw[x5];exact hpa))
          refine⟨olds,o1,fun p' hp'=>?_,fun i y hy=>(o2 i y hy).2⟩
          cases hp'
          refine chunks_cells (C:=fun j u=>w.cell? ⟨p.1,p.2+j,none⟩=some u) o1 fun i hi k u hk=>?_
          rw[← Nat.add_assoc]
          exact(o2 i _ (List.getElem?_eq_getElem hi)).1 k u hk
        obtain⟨olds,o1,o2,o3⟩:=hold
        have hnew:∃ news:List Value,news.length=List.length vu*e.size/\(∀ (j:Nat) u,news[j]?=some u->w.cell? ⟨q.1,q.2+j,none⟩=some u/\¬ O q.1 (q.2+j)) /\
          ∀ (i:Nat) y,vu[i]?=some y->RepC P e w O M y .o ((news.drop (i*e.size)).take e.size):=by
         obtain⟨news,o1,o2⟩:=gather (sz:=e.size) vu (fun i es=>∀ j u,es[j]?=some u->w.cell? ⟨q.1,q.2+i*e.size+j,none⟩=some u/\¬ O q.1 (q.2+i*e.size+j)) (fun y es=>RepC P e w O M y .o es)
          (fun i y hy=>by rw[hO];exact hEy q rfl i y hy)
         refine⟨news,o1,?_,fun i y hy=>(o2 i y hy).2⟩
         refine chunks_cells (C:=fun j u=>w.cell? ⟨q.1,q.2+j,none⟩=some u/\¬ O q.1 (q.2+j)) o1 fun i hi k u hk=>?_
         rw[← Nat.add_assoc]
         exact(o2 i _ (List.getElem?_eq_getElem hi)).1 k u hk
        obtain⟨news,m1,m2,m3⟩:=hnew
        have one:∀ (cs:List Value) (vs:List e.D),cs.length=vs.length*e.size->(∀ (i:Nat) y,vs[i]?=some y->RepC P e w O M y .o ((cs.drop (i*e.size)).take e.size))->∀ u∈cs,u.oneCell'=true:=fun cs vs hl hr u hu=>by
         obtain⟨j,hj⟩:=List.getElem?_of_mem hu
         refine chunks_cells (C:=fun _ u=>u.oneCell'=true) hl (fun i hi k u hk=>?_) j u hj
         exact(hr i _ (List.getElem?_eq_getElem (by omega))).one _ (memTup hem).1 u (List.mem_of_getElem? hk)
        have hbytes:(List.length vc+List.length vu)*xi.bytes<=140737488355328:=Nat.le_trans (Nat.mul_le_mul_right _ hlen) q4
        have hx2:n=List.length vc:=k2
        subst hx2
        have hlive:∀ p,pa=some p->∀ j,j<cp*e.size->(w.cell? ⟨p.1,p.2+j,none⟩).isSome=true/\Clean w p.1:=fun p hp j hj=>by
         obtain⟨k1,k2,_⟩:=hrel.live _ _ ⟨.b k,hkr p hp (p.2+j) (by omega) (by omega)⟩
         exact⟨k1,k2⟩
        have hap:∀ p,pa=some p->0<cp*e.size->q.1=p.1->q.2+List.length vu*e.size<=p.2\/p.2+cp*e.size<=q.2:=fun p hp h0 hqp=>by
         by_cases h1:q.2+List.length vu*e.size<=p.2
         ·exact .inl h1
         by_cases h2:p.2+cp*e.size<=q.2
         ·exact .inr h2
         exfalso
         have hpos:0<List.length vu*e.size:=Nat.mul_pos hm hsz0
         have hex:∃ x,q.2<=x/\x<q.2+List.length vu*e.size/\p.2<=x/\x<p.2+cp*e.size:=by
          by_cases h3:q.2<=p.2
          ·exact⟨p.2,by omega,by omega,by omega,by omega⟩
          ·exact⟨q.2,by omega,by omega,by omega,by omega⟩
         obtain⟨x',y1,y2,y3,y4⟩:=hex
         have:=(m2 (x'-q.2) _ (List.getElem?_eq_getElem (by omega))).2
         rw[show q.2+(x'-q.2)=x' by omega,hqp,hO] at this
         exact this ⟨.b k,hkr p hp x' y3 y4⟩
        obtain⟨pa',c',w',⟨z1,z2,z3,z4,z5⟩,hcall⟩:=ins_run W hi q2 q3 hsz0 (w:=w) (pa:=pa) (n:=List.length vc) (c:=cp) (m:=List.length vu) (mc:=c2) (i:=i) (vb:=q.1) (voff:=q.2) (olds:=olds) (news:=news)
         x3.1 x4 hm (by have:=f3.1;omega) hin hbytes o1 m1 o2 (fun j u hj=>(m2 j u hj).1) (one olds vc o1 o3) (one news vu m1 m3) hlive hap
        obtain⟨fn,b1,b2,b3⟩:=W.body
        refine StepOk.enter (exec_fn ho hc (x:=.func f) (caps:=#[]) rfl b1 b2 b3) ?_
        have hargs':(c.args.map a.eval)++(#[]:Array Value)=#[.slice (pa.map adr) (List.length vc) cp,.int .i64 i,.slice (some ⟨q.1,q.2,none⟩) (List.length vu) c2]:=by
         have e1:c.args=#[x,ix,y]:=Array.toList_inj.1 hargs
         rw[e1]
         have ex:=x1.val rfl
         have ey':a.eval y=.slice (some ⟨q.1,q.2,none⟩) (List.length vu) c2:=by rw[← f2'];exact ey
         have ej':a.eval ix=.int .i64 i:=by rw[ej];exact congrArg _ hji
         simp [ex,ey',ej']
        rw[hargs']
        refine hcall.mono fun ex w2 hex=>?_
        obtain⟨e1,e2⟩:=hex
        subst e2
        refine⟨_,e1,M.setRow id (pa',List.length vc+List.length vu,c'),Mp.setRow_agree hid,?_⟩
        have hrl:(List.take (Int.toNat jn) vc++vu++List.drop (Int.toNat jn) vc).length=List.length vc+List.length vu:=by
         rw[htn]
         simp only[List.length_append,List.length_take,List.length_drop]
         omega
        have hslot:∀ (b:List (Nat×Bx)) (t:List (Nat×Bool)) (pv:Vl) (n:Nat),look (st.patch o.dst { v:=some pv,bs:=b,ts:=t }).sl n=if o.dst=some n then some (some pv) else look st.sl n:=fun b t pv n=>by
         cases ho':o.dst with
         | none=>simp [St.patch]
         | some d=>simp only[St.patch,look_cons,Option.some.injEq]
        rw[← hrl]
        have htl:(olds.take (i*e.size)).length=i*e.size:=by
         have:i*e.size<=List.length vc*e.size:=Nat.mul_le_mul_right _ hin
         rw[List.length_take];omega
        refine hrel.app (K:=.b k) (N:=.b id) (pa:=pa') (c:=c') hd (memTup hem).1 (W:=fun b o=>∃ p,pa=some p/\b=p.1/\p.2<=o/\o<p.2+cp*e.size) ⟨fun n=>hslot _ _ _ n,fun n=>?_,fun n=>?_⟩ (fun n=>by simp) hid (fun k hk=>.inl hk) (.inr ⟨Nat.le_refl _,by show id<id+1;omega⟩) (Mp.setRow_agree hid) z3 (fun b o hb=>?_) (by simp) ⟨by omega,?_⟩ z2 (fun k hk=>by cases hk) (fun k hk=>?_) (fun p' hp' idx y hy=>?_) (fun b o' ho'=>?_) (fun p' idx j hp' hi' hj' l hl hrg=>?_)
        ·simp only[St.patch,putL,Loc.b.injEq]
         by_cases hn:id=n
         ·subst hn
          rw[if_pos rfl,look_dead_f hfree,look_cons,if_neg hkid,look_cons,if_pos rfl]
         ·rw[if_neg hn]
          cases hb:ds.any fun p=>Nat.beq p.1 n with
          | true=>rw[look_dead_t hdead hb,look_dead_t hdead hb];split<;>rfl
          | false=>rw[look_dead_f hb,look_dead_f hb,look_cons,look_cons,if_neg hn]
        ·simp only[St.patch,reduceCtorEq,if_false];rfl
        ·obtain⟨p,hp,rfl,h1,h2⟩:=hb
         exact hkr p hp o h1 h2
        ·have:List.length vc+List.length vu<=(List.length vc+List.length vu)*xi.bytes:=Nat.le_mul_of_pos_right _ q3
         omega
        ·cases hk
         rw[hrl]
         exact⟨Mp.setRow_same,fun p hp=>by rw[Mp.setRow_box,hp];rfl⟩
        ·have hidx:idx<List.length vc+List.length vu:=by rw[← hrl];exact(List.getElem?_eq_some_iff.1 hy).1
         have hcl:(olds.take (i*e.size)++news++olds.drop (i*e.size)).length=(List.length vc+List.length vu)*e.size:=by
          rw[List.length_append,List.length_append,htl,List.length_drop,m1,o1,Nat.add_mul]
          have:i*e.size<=List.length vc*e.size:=Nat.mul_le_mul_right _ hin
          omega
         refine⟨_,chunk_get (c:=List.length vc+List.length vu) hcl hidx,fun j u hj=>?_,?_⟩
         ·have:=z4 p' hp' _ u (drop_take_get hj)
          rw[← this]
          congr 2
          omega
         ·rw[htn] at hy
          rw[← hO]
          rcases get3 hy with⟨h1,h2⟩ | ⟨k',rfl,h2⟩ | ⟨k',rfl,h2⟩
          ·rw[List.length_take] at h1
           have h1':idx<i:=by omega
           rw[List.getElem?_take,if_pos h1'] at h2
           rw[List.append_assoc,chunk_left (n:=i) htl h1',chunk_take h1']
           exact o3 idx y h2
          ·have hk':=(List.getElem?_eq_some_iff.1 h2).1
           have ht:(List.take i vc).length=i:=by rw[List.length_take];omega
           rw[ht,List.append_assoc,chunk_right htl,chunk_left (n:=List.length vu) m1 hk']
           exact m3 k' y h2
          ·have ht:(List.take i vc).length=i:=by rw[List.length_take];omega
           rw[List.getElem?_drop] at h2
           rw[ht,chunk_right (n:=i+List.length vu) (by rw[List.length_append,htl,m1,Nat.add_mul]),chunk_drop]
           exact o3 (i+k') y h2
        ·obtain⟨q',q1',q2',q3'⟩:=ho'
         rw[Mp.setRow_same] at q1' q3'
         dsimp only at q1' q3'
         rcases z5 with⟨rfl,rfl⟩ | ⟨B,hB,y1,y2,y3⟩
         ·exact .inl (hkr _ q1' o' q2' q3')
         ·right
          rw[hB] at q1'
          cases q1'
          exact⟨y1,y2 o' (by omega),y3⟩
        ·have hmc:=mul_cell hi' hj'
         rw[hrl] at hmc
         have hcc:(List.length vc+List.length vu)*e.size<=c'*e.size:=Nat.mul_le_mul_right _ z1
         rcases z5 with⟨rfl,rfl⟩ | ⟨B,hB,y1,y2,y3⟩
         ·exact hl (hrel.dis _ _ _ _ hrg (hkr _ hp' _ (by omega) (by omega)))
         ·rw[hB] at hp'
          cases hp'
          have:=hrel.own_lt ⟨l,hrg⟩
          dsimp only at this
          omega
       ·cases hr
      ·cases hg
     ·cases hg
    | _=>dsimp only at hg;cases hg
   | _=>dsimp only at hg;cases hg
  | _=>dsimp only at hg;cases hg
 | _=>dsimp only at hg;cases hg
end Go.VX
/- VX, part 39: a call by contract. -/
set_option linter.unusedVariables false
set_option linter.unusedSimpArgs false
namespace Go.VX
theorem look_true_mk{l:List Nat} {n:Nat} (h:n∈l):look (l.map (·,true)) n=some true:=by
 induction l with
 | nil=>cases h
 | cons a l ih =>
  rw[List.map_cons,look_cons]
  split
  ·rfl
  ·rename_i e
   rcases List.mem_cons.1 h with e' | h
   ·exact(e e'.symm).elim
   ·exact ih h
theorem pv_spec{c:Con} {y:c.R.D} {m:Mt} {base:Nat} {u:Vl} (h:(match c.B,(conOut c.B (outL c.bs c.nb) y).1 with
  | .unit,_=>none
  | t,z=>some (⟨t,z,ren m base c.bsh⟩:Vl))=some u) :
  u=⟨c.B,(conOut c.B (outL c.bs c.nb) y).1,ren m base c.bsh⟩/\look (outSt c y).sl 0=some (some ⟨c.B,(conOut c.B (outL c.bs c.nb) y).1,c.bsh⟩):=by
 unfold outSt
 dsimp only
 obtain⟨A,ash,bs,B,bsh,nb,fr,F⟩:=c
 dsimp only at *
 generalize (conOut B (outL bs nb) y).1=z at *
 cases B<;>first | (cases h;exact⟨rfl,rfl⟩) | cases h
theorem con_ok{P:Program} {f:FuncId} {c:Con} (hS:SoundC P f c) (hw:WfC c) {w0:World} {I:Own} {nt:Nat} {U:Nat->Prop} {M:Mp} {st:St} {a:Act} {w:World} (h:Rel P w0 I nt U M st a w)
  {dst:Option Tmp} (hd:∀ d,dst=some d->d<nt) {ω:Bool} {base:Nat} {vs:List Vl} {xs:List Value} (hv:ValsIn P w (own st M) M U vs xs) {p:Patch} {fl:List Loc} (hg:Goes st ω (evCon c base vs) p fl)
  (hfr:∀ k,base<=k->k<base+p.fr->¬ U k) :
  Calls P f xs.toArray w fun e w'=>∃ v,e=.returned v/\∃ M',Agree U M M'/\Rel P w0 I nt (fun k=>U k\/(base<=k/\k<base+p.fr)) M' (st.patch dst p) (a.put dst v) w':=by
 unfold evCon at hg
 obtain⟨us,dead,f1,hr,hg,_⟩:=goes_valsOf _ _ _ _ hg
 split at hg
 ·rename_i av m0 hav hm0
  split at hav
  ·rename_i hnd
   obtain⟨m,s,f2,hext,hinj,hkeys,hboxes,hg⟩:=goes_boxesIn (nb:=c.bs.length) (n:=c.lo) _ _ _ _ _ _ hg (matchShs_inj _ _ hm0 MtInj.nil) hw.sin (matchShs_keys _ _ hm0 hw.ash (fun k q hk=>by cases hk))
   obtain⟨htoks,f3,hg⟩:=goes_rdToks _ _ _ _ hg
   obtain⟨y,hy,hg⟩:=goes_eff hg
   obtain⟨l,f4,houts,hg⟩:=goes_boxesOut _ _ _ _ _ _ _ hg
   cases hg
   obtain⟨k1,k2,k3,k4,k5,k6⟩:=vals_ok vs us _ dead st h hr hnd hv (fun _ _=>rfl)
   have hdl:∀ id cv,isMs cv.ty=false->look st.bx id=some (.rw cv)->look (putL dead st.bx) id=some (.rw cv):=fun id cv hms hl=>by
    cases hb:dead.any fun p=>Nat.beq p.1 id with
    | false=>rw[look_dead_f hb];exact hl
    | true =>
     obtain⟨e,l2,s2,h2⟩:=k6 id hb
     rw[hl] at h2
     cases h2
     cases hms
   have hdr:∀ id z cv,look st.bx id=some (.ro z cv)->look (putL dead st.bx) id=some (.ro z cv):=fun id z cv hl=>by
    cases hb:dead.any fun p=>Nat.beq p.1 id with
    | false=>rw[look_dead_f hb];exact hl
    | true =>
     obtain⟨e,l2,s2,h2⟩:=k6 id hb
     rw[hl] at h2
     cases h2
   have hP:Passed st { st with bx:=putL dead st.bx } m:=⟨hdl,hdr,fun j t hj=>htoks j t (look_mem hj)⟩
   have hB:BoxesIn st m c.bs 0 (conArg c.A c.bs (conIn c.A c.bs av s)).2:=by rw[conArg_conIn];exact hboxes
   have hA:=args_ok (P:=P) (w:=w) (O:=own { st with bx:=putL dead st.bx } M) (O':=own (inSt c (conIn c.A c.bs av s)) (McOf M m (frOf { st with bx:=putL dead st.bx } M m c (conIn c.A c.bs av s))))
    (fun b o _ hb=>own_callee k1 hP hw.std hB hb) c.A c.ash us xs (m:={}) (m0:=m0) (mf:=m) hw.A hav hm0 hext (McOf_ok (F:=frOf { st with bx:=putL dead st.bx } M m c (conIn c.A c.bs av s))) k2
   have hrel:=callee_start k1 hP hinj hw hB (xs:=xs) (by rw[conArg_conIn];exact hA)
   refine(hS.2 w _ _ _ hrel y hy).mono fun e w' he=>?_
   obtain⟨v,Mc,rfl,hMfr,hMbox,hout⟩:=he
   have Bk:Back P w0 I nt U M st { st with bx:=putL dead st.bx } a w m c (conIn c.A c.bs av s) y Mc v w' base l:=⟨k1,hP,hinj,hw,hB,hMfr,hMbox,hout,hfr,houts,hkeys⟩
   refine⟨v,rfl,_,MpAft_agree hfr,Bk.rel hd (pv:=match c.B,(conOut c.B (outL c.bs c.nb) y).1 with | .unit,_=>none | t,z=>some ⟨t,z,ren m base c.bsh⟩) ⟨fun n z hz=>?_,fun k hk=>?_,fun n=>?_⟩ (fun u hu=>pv_spec hu)⟩
   ·simp only[St.patch,List.append_assoc,putL_append dead] at hz
    rcases look_putL hz with hz | hz
    ·exact .inl hz
    ·exact .inr hz
   ·simp only[St.patch] at hk
    rcases look_putL hk with hk | ⟨hn,hk⟩
    ·left
     rcases List.mem_append.1 hk with hk | hk
     ·rcases List.mem_append.1 hk with hk | hk
      ·obtain⟨q,hq,hq2⟩:=List.mem_filterMap.1 hk
       cases hq3:q.2<;>rw[hq3] at hq2<;>simp at hq2
      ·rw[toks_ren,List.map_map] at hk
       obtain⟨j,hj,hj2⟩:=List.mem_map.1 hk
       simp only[Function.comp,Prod.mk.injEq] at hj2
       exact⟨j,hj2.1.symm,look_true_mk (by simp [hj])⟩
     ·obtain⟨j,hj,hj2⟩:=List.mem_map.1 hk
      simp only[Prod.mk.injEq] at hj2
      exact⟨j,hj2.1.symm,look_true_mk (by simp [hj])⟩
    ·right
     refine⟨hk,fun j hj=>?_⟩
     refine hn false (List.mem_append_left _ (List.mem_append_left _ (List.mem_filterMap.2 ⟨_,look_mem hj,rfl⟩)))
   ·cases dst with
    | none=>simp [St.patch]
    | some d =>
     show look ((d,_)::st.sl) n=_
     rw[look_cons]
     simp only[Option.some.injEq]
     rfl
  ·cases hav
 ·cases hg
theorem ok_call{P:Program} {E:Env} (hE:EnvOk P E) {o:Oper} {m:Bool} {c:Call} (ho:o.op=.call c) {f:FuncId} (hc:c.callee=.value (.func f)):OpOk P E o m:=by
 intro w0 I nt U M st a w id h hd
 refine⟨false,fun ω _ p fl hg hfr=>?_⟩
 simp only[evOp,ho,hc,evCall] at hg
 split at hg
 ·rename_i t ht
  split at hg
  ·rename_i x ix y hargs
   exact ok_ins hE ho hc ht hargs h hd hg hfr
  ·cases hg
 ·split at hg
  ·rename_i C hC
   split at hg
   ·rename_i hlen
    have hlen:=Nat.eq_of_beq_eq_true hlen
    obtain⟨vs,_,hv,hg,_⟩:=goes_opdV hE h _ _ _ _ hg
    have hS:=hE.con f C hC
    obtain⟨⟨fn,f1,f2,f3⟩,_⟩:=hS
    refine StepOk.enter (exec_fn ho hc (x:=.func f) (caps:=#[]) rfl f1 f2 f3) ?_
    have hargs:(c.args.map a.eval)++(#[]:Array Value)=(((c.args.toList.zip c.argTypes.toList).map fun x=>(x.1,look E.ty x.2)).map fun x=>a.eval x.1).toArray:=by
     apply Array.toList_inj.1
     rw[Array.append_empty,Array.toList_map]
     exact(zip_eval a.eval (look E.ty) _ _ (by simpa using hlen)).symm
    rw[hargs]
    exact con_ok (hE.con f C hC) (wfC_spec (hE.wf f C hC)) h hd hv hg hfr
   ·cases hg
  ·cases hg
theorem ok_callV{P:Program} {E:Env} (hE:EnvOk P E) {o:Oper} {m:Bool} {c:Call} (ho:o.op=.call c) {n:Tmp} (hc:c.callee=.value (.tmp n)):OpOk P E o m:=by
 intro w0 I nt U M st a w id h hd
 refine⟨false,fun ω _ p f hg hfr=>?_⟩
 simp only[evOp,ho,hc] at hg
 cases hg with
 | rdS hgl hg =>
  rename_i g _
  obtain⟨rg,sg⟩:=h.sl n g hgl
  dsimp only at hg
  split at hg
  ·rename_i A B φ sh hlen
   have hlen:=Nat.eq_of_beq_eq_true hlen
   obtain⟨vs,_,hv,hg,_⟩:=goes_opdV hE h _ _ _ _ hg
   obtain⟨us,ds,_,hr,hg,_⟩:=goes_valsOf _ _ _ _ hg
   split at hg
   ·rename_i x hx
    split at hx
    ·rename_i hwf
     simp only[Bool.and_eq_true] at hwf
     obtain⟨r,hφ,hg⟩:=goes_eff hg
     cases hg
     obtain⟨k1,k2,k3,k4,k5,_⟩:=vals_ok vs us _ ds st h hr hwf.1.1 hv (fun _ _=>rfl)
     obtain⟨v,e1,_,hfn⟩:=(repV_of (t:=.fn A B) rfl).1 rg
     rcases hfn with hfn | hfn
     ·have:=(hfn x).symm.trans hφ;cases this
     ·obtain⟨f',caps,fn,rfl,f1,f2,f3,hcall⟩:=hfn
      have e1:a.tmps.getD n undef=.func (.func f') #[] caps:=by injection e1
      have hrep:=tupV_rep (M':=default) A us _ hwf.1.2 hx k2
      have:=hcall w (own { st with bx:=putL ds st.bx } M) (Ext.refl _ _) (fun b o _ hb=>k4 b o hb) (fun b o hb=>⟨(k1.live b o hb).1,(k1.live b o hb).2.1⟩) x _ hrep r hφ
      refine StepOk.enter (exec_fn ho hc (x:=.tmp n) e1 f1 f2 f3) ?_
      have hargs:(c.args.map a.eval)=(((c.args.toList.zip c.argTypes.toList).map fun x=>(x.1,look E.ty x.2)).map fun x=>a.eval x.1).toArray:=by
       apply Array.toList_inj.1
       rw[Array.toList_map]
       exact(zip_eval a.eval (look E.ty) _ _ (by simpa using hlen)).symm
      rw[hargs]
      refine this.mono fun e w'' he=>?_
      obtain⟨v',rfl,hk,hrb⟩:=he
      refine⟨v',rfl,M,Agree.refl _ _,k1.deadV hd hk (u:=⟨B,r,.o⟩) ?_ trivial⟩
      exact fnRet hrb
    ·cases hx
   ·cases hg
  ·rename_i q bb pp off kk hlen
   have hlen:=Nat.eq_of_beq_eq_true hlen
   split at hg
   ·rename_i C hC
    obtain⟨vs,_,hv,hg,_⟩:=goes_opdV hE h _ _ _ _ hg
    obtain⟨⟨fn,f1,f2,f3⟩,_⟩:=hE.con _ C hC
    have rg':RepC P .nx w (own st M) M q (.pr (.box bb pp off) (.mref kk)) [a.tmps.getD n undef]:=rg
    have e1:a.tmps.getD n undef=.func (.func q.2.1.toNat) #[.pointer (some ⟨(M.box bb).1,(M.box bb).2+off,none⟩)] #[]:=by
     simp only[RepC] at rg'
     exact(List.cons.inj rg').1
    refine StepOk.enter (exec_fn1 ho hc (x:=.tmp n) e1 f1 f2 f3) ?_
    have hargs:(#[Value.pointer (some ⟨(M.box bb).1,(M.box bb).2+off,none⟩)]++c.args.map a.eval++(#[]:Array Value))=(Value.pointer (some ⟨(M.box bb).1,(M.box bb).2+off,none⟩)::((c.args.toList.zip c.argTypes.toList).map fun x=>(x.1,look E.ty x.2)).map fun x=>a.eval x.1).toArray:=by
     apply Array.toList_inj.1
     rw[Array.append_empty,Array.toList_append,Array.toList_map]
     exact congrArg (Value.pointer (some ⟨(M.box bb).1,(M.box bb).2+off,none⟩)::·) (zip_eval a.eval (look E.ty) _ _ (by simpa using hlen)).symm
    rw[hargs]
    exact con_ok (hE.con _ C hC) (wfC_spec (hE.wf _ C hC)) h hd (vs:=⟨.ptr,(),.box bb pp off⟩::vs) (xs:=Value.pointer (some ⟨(M.box bb).1,(M.box bb).2+off,none⟩)::_) ⟨(repV_of (t:=.ptr) rfl).2 ⟨_,rfl,rfl⟩,sg.1,hv⟩ hg hfr
   ·cases hg
  ·cases hg
end Go.VX
/- VX, part 40: literal functions. -/
set_option linter.unusedVariables false
set_option linter.unusedSimpArgs false
namespace Go.VX
theorem toks_lt{nb n:Nat}:∀ s:Sh,shInB nb n s=true->∀ k∈toksOf s,k<n:=by
 intro s
 induction s with
 | tok k=>intro h0 k' hk';simp only[toksOf,List.mem_singleton] at hk';subst hk';exact Nat.le_of_ble_eq_true h0
 | pr s t ihs iht =>
  intro h0 k' hk'
  simp only[shInB,Bool.and_eq_true] at h0
  rcases List.mem_append.1 hk' with hk' | hk'
  ·exact ihs h0.1 k' hk'
  ·exact iht h0.2 k' hk'
 | _=>intro h0 k' hk';simp [toksOf] at hk'
theorem goes_frz{st:St} {ω:Bool}:∀ (l:List (Nat×Nat×List Nat×Nat)) (k:List (Nat×Bx)->RM) (p:Patch) (f:List Loc),Goes st ω (frz l k) p f ->
  ∃ fz f',(∀ id y,(id,y)∈fz->∃ c,y=.ro true c/\c.ty.std=true/\(look st.bx id=some (.rw c)\/look st.bx id=some (.ro true c)))/\(∀ k id q,(k,id,q)∈l->∃ c,(id,.ro true c)∈fz)/\(∀ id y,(id,y)∈fz->∃ k q,(k,id,q)∈l)/\Goes st ω (k fz) p f'
 | [],k,p,f,g=>⟨[],f,fun id y h=>by simp at h,fun k id q h=>by simp at h,fun id y h=>by simp at h,g⟩
 | (k0,id0,q0)::l,k,p,f,g=>by
  simp only[frz] at g
  have core:∀ (c:Vl) (f1:List Loc),(look st.bx id0=some (.rw c)\/look st.bx id0=some (.ro true c))->Goes st ω (match c.ty.std with
     | true=>frz l fun l=>k ((id0,.ro true c)::l)
     | false=>.fail) p f1 ->
    ∃ fz f',(∀ id y,(id,y)∈fz->∃ c,y=.ro true c/\c.ty.std=true/\(look st.bx id=some (.rw c)\/look st.bx id=some (.ro true c)))/\(∀ k id q,(k,id,q)∈(k0,id0,q0)::l->∃ c,(id,.ro true c)∈fz)/\(∀ id y,(id,y)∈fz->∃ k q,(k,id,q)∈(k0,id0,q0)::l)/\Goes st ω (k fz) p f':=by
   intro c f1 hc g
   split at g
   case h_2=>cases g
   rename_i hstd
   obtain⟨fz,f',h1,h2,h3,g⟩:=goes_frz l _ p f1 g
   refine⟨(id0,.ro true c)::fz,f',fun id y hm=>?_,fun k id q hm=>?_,fun id y hm=>?_,g⟩
   ·rcases List.mem_cons.1 hm with e | hm
    ·cases e;exact⟨c,rfl,hstd,hc⟩
    ·exact h1 id y hm
   ·rcases List.mem_cons.1 hm with e | hm
    ·cases e;exact⟨c,List.mem_cons_self⟩
    ·obtain⟨c',hc'⟩:=h2 k id q hm
     exact⟨c',List.mem_cons_of_mem _ hc'⟩
   ·rcases List.mem_cons.1 hm with e | hm
    ·cases e;exact⟨k0,q0,List.mem_cons_self⟩
    ·obtain⟨k',q',h⟩:=h3 id y hm
     exact⟨k',q',List.mem_cons_of_mem _ h⟩
  cases g with
  | rdFw h g=>exact core _ _ (.inl h) g
  | rdFo h g=>exact core _ _ (.inr h) g
theorem frz_own{st:St} {fz:List (Nat×Bx)} (h1:∀ id y,(id,y)∈fz->∃ c,y=.ro true c/\c.ty.std=true/\(look st.bx id=some (.rw c)\/look st.bx id=some (.ro true c))) {M:Mp} {l:Loc} {b o:Nat}
  (h:reg { st with bx:=putL fz st.bx } M l b o):reg st M l b o/\∀ id y,(id,y)∈fz->l≠.b id:=by
 cases l with
 | s n=>cases n<;>exact⟨h,fun _ _ _ e=>by cases e⟩
 | t n=>exact⟨h,fun _ _ _ e=>by cases e⟩
 | b n =>
  obtain⟨v,hv,hin⟩:=h
  rcases look_putL hv with hm | ⟨hn,hv⟩
  ·obtain⟨c,e,_⟩:=h1 _ _ hm;cases e
  ·exact⟨⟨v,hv,hin⟩,fun id y hm e=>by cases e;exact hn _ hm⟩
theorem Rel.freezeAll{P:Program} {w0:World} {I:Own} {nt:Nat} {U:Nat->Prop} {M:Mp} {st:St} {a:Act} {w:World} (h:Rel P w0 I nt U M st a w) {fz:List (Nat×Bx)}
  (h1:∀ id y,(id,y)∈fz->∃ c,y=.ro true c/\c.ty.std=true/\(look st.bx id=some (.rw c)\/look st.bx id=some (.ro true c))) :
  Rel P w0 I nt U M { st with bx:=putL fz st.bx } a w:=by
 refine h.upd (fun _ k=>k) (Agree.refl _ _) (Ext.refl _ _) (fun b o _ ⟨l,hl⟩=>⟨l,(frz_own h1 hl).1⟩) (fun n v hn=>.inl ⟨hn,rfl⟩) (fun k v hv=>?_) (Ext.refl _ _) (fun b o _ ⟨l,h0,hl⟩=>⟨l,h0,(frz_own h1 hl).1⟩) (fun k z v hv=>?_) h.tk
  (fun b o ⟨l,hl⟩=>h.live b o ⟨l,(frz_own h1 hl).1⟩) (fun l l' b o k1 k2=>h.dis l l' b o (frz_own h1 k1).1 (frz_own h1 k2).1) h.keep h.size h.defs (fun _ _ _ _=>rfl) (fun k v hv _=>by
   rcases look_putL hv with hm | ⟨hn,hv⟩
   ·obtain⟨c,e,_⟩:=h1 _ _ hm;cases e
   ·exact hv)
 ·rcases look_putL hv with hm | ⟨hn,hv⟩
  ·obtain⟨c,e,_⟩:=h1 _ _ hm;cases e
  ·exact .inl ⟨hv,fun _ _ _=>rfl⟩
 ·rcases look_putL hv with hm | ⟨hn,hv⟩
  ·right
   obtain⟨c,e,hstd,hc⟩:=h1 _ _ hm
   cases e
   have hms:=(std_ms hstd).1
   rcases hc with hc | hc
   ·obtain⟨b1,b2,b3⟩:=h.bx _ _ hc
    obtain⟨ht,cs,r,kc⟩:=(BoxOk.plain hms).1 b1
    refine⟨⟨ht,hms,cs,r.mono P _ (Ext.refl _ _) (fun b o _ ⟨l,hl⟩=>⟨l,(frz_own h1 hl).1⟩) (ShAg.refl _ _),fun j u hj=>⟨kc j u hj,?_⟩⟩,b2,b3⟩
    rintro⟨l,hl⟩
    obtain⟨g1,g2⟩:=frz_own h1 hl
    have hjl:j<v.ty.size:=by rw[← r.len ht];exact(List.getElem?_eq_some_iff.1 hj).1
    exact g2 _ _ hm (h.dis _ _ _ _ g1 (show reg st M (.b k) _ _ from⟨v,hc,(inBox.plain hms).2 ⟨rfl,by omega,by omega⟩⟩))
   ·obtain⟨b1,b2,b3⟩:=h.ro _ _ _ hc
    refine⟨b1.mono (Ext.refl _ _) (fun b o _ ⟨l,hl⟩=>⟨l,(frz_own h1 hl).1⟩) (Ext.refl _ _) (fun b o _ ⟨l,h0,hl⟩=>⟨l,h0,(frz_own h1 hl).1⟩) (ShAg.refl _ _) rfl,b2,b3⟩
  ·exact .inl hv
theorem capsArgs{P:Program} {w:World} {O O':Own} {M Mc:Mp} {U:Nat->Prop} (hO:∀ b o,b<w.heap.size->O' b o->O b o) {w':World} (hx:Ext O' w w') {O2:Own} (hO2:∀ b o,b<w.heap.size->O2 b o->O' b o) :
  ∀ (C:Ty) (ss:List Sh) (vs:List Vl) (xs:List Value) {a':C.D} {m m0 mf:Mt},chLen C=vs.length->extA C .unit ()=some a'->(∀ v∈vs,v.ty=.ptr)->matchShs ss vs m=some m0->MtExt m0 mf->MtOk M Mc mf->ValsIn P w O M U vs xs->ss.length=vs.length->ArgsOk P w' O2 Mc C a' ss xs
 | .unit,ss,vs,xs,a',m,m0,mf,hl,he,hp,hm,hext,hk,hv,hsl=>by
  have:vs=[]:=List.length_eq_zero_iff.1 hl.symm
  subst this
  cases xs with
  | nil=>trivial
  | cons y ys=>exact hv.elim
 | .tu .ptr b,ss,vs,xs,a',m,m0,mf,hl,he,hp,hm,hext,hk,hv,hsl=>by
  cases vs with
  | nil=>cases hl
  | cons v vs =>
   cases xs with
   | nil=>exact hv.elim
   | cons y ys =>
    cases ss with
    | nil=>cases hsl
    | cons s ss =>
     obtain⟨rv,sv,hv⟩:=hv
     simp only[extA] at he
     split at he
     ·rename_i r hr
      cases he
      simp only[matchShs] at hm
      split at hm
      ·rename_i m1 h1
       have hvt:=hp v (by simp)
       obtain⟨tv,vv,sh⟩:=v
       dsimp only at hvt
       subst hvt
       have r1:=(repV_of (t:=.ptr) rfl).1 rv
       refine⟨?_,rfl,capsArgs hO hx hO2 b ss vs ys (by simpa [chLen] using hl) hr (fun v hv=>hp v (by simp [hv])) hm hext hk hv (by simpa using hsl)⟩
       refine(repV_of (t:=.ptr) rfl).2 (r1.imp fun cs hc=>?_)
       exact(matchSh_rep hO s .ptr sh h1 (hk.anti ((matchShs_ext _ _ hm).trans hext)) hc).mono P _ hx hO2 (ShAg.refl _ _)
      ·cases hm
     ·cases he
 | .tu (.int _) b,_,_,_,_,_,_,_,_,he,_,_,_,_,_,_=>by simp [extA] at he
 | .tu .bool b,_,_,_,_,_,_,_,_,he,_,_,_,_,_,_=>by simp [extA] at he
 | .tu .str b,_,_,_,_,_,_,_,_,he,_,_,_,_,_,_=>by simp [extA] at he
 | .tu .unit b,_,_,_,_,_,_,_,_,he,_,_,_,_,_,_=>by simp [extA] at he
 | .tu (.sl _) b,_,_,_,_,_,_,_,_,he,_,_,_,_,_,_=>by simp [extA] at he
 | .tu (.ms _) b,_,_,_,_,_,_,_,_,he,_,_,_,_,_,_=>by simp [extA] at he
 | .tu (.pr _ _) b,_,_,_,_,_,_,_,_,he,_,_,_,_,_,_=>by simp [extA] at he
 | .tu (.tu _ _) b,_,_,_,_,_,_,_,_,he,_,_,_,_,_,_=>by simp [extA] at he
 | .tu (.fn _ _) b,_,_,_,_,_,_,_,_,he,_,_,_,_,_,_=>by simp [extA] at he
 | .tu (.rref _) b,_,_,_,_,_,_,_,_,he,_,_,_,_,_,_=>by simp [extA] at he
 | .tu .eref b,_,_,_,_,_,_,_,_,he,_,_,_,_,_,_=>by simp [extA] at he
 | .tu .mh b,_,_,_,_,_,_,_,_,he,_,_,_,_,_,_=>by simp [extA] at he
 | .tu .nx b,_,_,_,_,_,_,_,_,he,_,_,_,_,_,_=>by simp [extA] at he
 | .int _,_,_,_,_,_,_,_,_,he,_,_,_,_,_,_=>by simp [extA] at he
 | .bool,_,_,_,_,_,_,_,_,he,_,_,_,_,_,_=>by simp [extA] at he
 | .str,_,_,_,_,_,_,_,_,he,_,_,_,_,_,_=>by simp [extA] at he
 | .ptr,_,_,_,_,_,_,_,_,he,_,_,_,_,_,_=>by simp [extA] at he
 | .sl _,_,_,_,_,_,_,_,_,he,_,_,_,_,_,_=>by simp [extA] at he
 | .ms _,_,_,_,_,_,_,_,_,he,_,_,_,_,_,_=>by simp [extA] at he
 | .pr _ _,_,_,_,_,_,_,_,_,he,_,_,_,_,_,_=>by simp [extA] at he
 | .fn _ _,_,_,_,_,_,_,_,_,he,_,_,_,_,_,_=>by simp [extA] at he
 | .rref _,_,_,_,_,_,_,_,_,he,_,_,_,_,_,_=>by simp [extA] at he
 | .eref,_,_,_,_,_,_,_,_,he,_,_,_,_,_,_=>by simp [extA] at he
 | .mh,_,_,_,_,_,_,_,_,he,_,_,_,_,_,_=>by simp [extA] at he
 | .nx,_,_,_,_,_,_,_,_,he,_,_,_,_,_,_=>by simp [extA] at he
theorem extArgs{P:Program} {w':World} {F:Own} {Mc:Mp}:∀ (A C:Ty) (x:A.D) (a':C.D) (ash:List Sh) (args:List Value) (caps:List Value),extA C A x=some a'->RepC P A w' F default x .o args->(∀ s∈ash.take (chLen A),s=.o) ->
  (∀ (D:Ty) (d:D.D),extA D .unit ()=some d->chLen D+chLen A=chLen C->ArgsOk P w' F Mc D d (ash.drop (chLen A)) caps)->ArgsOk P w' F Mc C a' ash (args++caps)
 | .tu a b,C,x,a',ash,args,caps,he,r,hs,hc=>by
  obtain⟨v,vs,rfl,t1,r1,r2⟩:=r
  cases C with
  | tu c d =>
   simp only[extA] at he
   split at he
   ·rename_i y z hy hz
    cases he
    obtain⟨e,rfl⟩:=castTo_eq hy
    dsimp only at e
    subst e
    have hs0:ash.headD .o=.o:=by
     cases ash with
     | nil=>rfl
     | cons s0 ash=>exact hs s0 (by simp [chLen])
    refine⟨?_,t1,?_⟩
    ·rw[hs0]
     exact(repV_of t1).2 (r1.imp fun cs h=>h.mono P _ (Ext.refl _ _) (fun _ _ _ h=>h) trivial)
    ·refine extArgs b d x.2 z ash.tail vs caps hz r2 (fun s hm=>?_) (fun D dd h1 h2=>?_)
     ·cases ash with
      | nil=>simp at hm
      | cons s0 ash=>exact hs s (by simp [chLen];exact .inr hm)
     ·have:=hc D dd h1 (by simp only[chLen];omega)
      cases ash with
      | nil=>simpa using this
      | cons s0 ash=>simpa [chLen] using this
   ·cases he
  | _=>simp [extA] at he
 | .unit,C,x,a',ash,args,caps,he,r,hs,hc=>by
  have:args=[]:=r
  subst this
  have:=hc C a' he (by simp [chLen])
  simpa [chLen] using this
 | .int _,C,_,_,_,_,_,he,_,_,_=>by cases C<;>simp [extA] at he
 | .bool,C,_,_,_,_,_,he,_,_,_=>by cases C<;>simp [extA] at he
 | .str,C,_,_,_,_,_,he,_,_,_=>by cases C<;>simp [extA] at he
 | .ptr,C,_,_,_,_,_,he,_,_,_=>by cases C<;>simp [extA] at he
 | .sl _,C,_,_,_,_,_,he,_,_,_=>by cases C<;>simp [extA] at he
 | .ms _,C,_,_,_,_,_,he,_,_,_=>by cases C<;>simp [extA] at he
 | .pr _ _,C,_,_,_,_,_,he,_,_,_=>by cases C<;>simp [extA] at he
 | .fn _ _,C,_,_,_,_,_,he,_,_,_=>by cases C<;>simp [extA] at he
 | .rref _,C,_,_,_,_,_,he,_,_,_=>by cases C<;>simp [extA] at he
 | .eref,C,_,_,_,_,_,he,_,_,_=>by cases C<;>simp [extA] at he
 | .mh,C,_,_,_,_,_,he,_,_,_=>by cases C<;>simp [extA] at he
 | .nx,C,_,_,_,_,_,he,_,_,_=>by cases C<;>simp [extA] at he
theorem outBx_none:∀ (bs:List BoxS) (i:Nat) (x:(tuL (outL bs [])).D),(∀ b∈bs,b.sout=none)->outBx bs [] i x=[]
 | [],i,x,h=>rfl
 | ⟨t,si,some s⟩::bs,i,x,h=>by have:=h _ List.mem_cons_self;cases this
 | ⟨t,si,none⟩::bs,i,x,h=>outBx_none bs (i+1) x fun b hb=>h b (List.mem_cons_of_mem _ hb)
theorem outToks_none{bs:List BoxS} (h:∀ b∈bs,b.sout=none):outToks bs []=[]:=by
 simp only[outToks,List.flatMap_nil,List.append_nil,List.flatMap_eq_nil_iff]
 intro b hb
 rw[h b hb]
theorem retRep_of{P:Program} {B B':Ty} {w:World} {F:Own} {z:B'.D} {v:Value} (h:RepV P B' w F default z .o v) (e:B'=B) :
  RetRep B (fun c=>RepC P B w F default (e ▸ z) .o c) v:=by
 subst e
 cases B'<;>exact h
theorem exec_makeFunc{P:Program} {o:Oper} {a:Act} {w:World} {f:FuncId} {first caps:Array Operand} (ho:o.op=.makeFunc (.func f) first caps) (hf:first.toList=[]) :
  (execOp a.eval o).run P w=.ok (.value (.func (.func f) #[] (caps.map a.eval))) w:=by
 have:first=#[]:=Array.toList_inj.1 hf
 subst this
 simp only[execOp,ho,Instr.makeFunc,Sem.run_bind,Sem.run_pure,Result.andThen_ok,List.map_toArray,List.map_nil]
theorem exec_makeFunc1{P:Program} {o:Oper} {a:Act} {w:World} {f:FuncId} {first caps:Array Operand} {x:Operand} (ho:o.op=.makeFunc (.func f) first caps) (hf:first.toList=[x]) (hc:caps.toList=[]) :
  (execOp a.eval o).run P w=.ok (.value (.func (.func f) #[a.eval x] #[])) w:=by
 have:first=#[x]:=Array.toList_inj.1 hf
 subst this
 have:caps=#[]:=Array.toList_inj.1 hc
 subst this
 simp only[execOp,ho,Instr.makeFunc,Sem.run_bind,Sem.run_pure,Result.andThen_ok,List.map_toArray,List.map_nil,List.map_cons]
theorem ok_makeFunc{P:Program} {E:Env} (hE:EnvOk P E) {o:Oper} {m:Bool} {f:FuncId} {first caps:Array Operand} (ho:o.op=.makeFunc (.func f) first caps):OpOk P E o m:=by
 intro w0 I nt U M st a w id h hd
 refine⟨false,fun ω _ p fl hg hfr=>?_⟩
 simp only[evOp,ho] at hg
 split at hg
 ·rename_i A B hfirst hty
  unfold evFunc at hg
  split at hg
  ·rename_i c hC
   split at hg
   ·rename_i hcond
    simp only[Bool.and_eq_true] at hcond
    obtain⟨⟨⟨⟨c1,c2⟩,c3⟩,c4,c5⟩,c6⟩:=hcond
    replace c1:=Nat.eq_of_beq_eq_true c1
    replace c2:=Nat.eq_of_beq_eq_true c2
    replace c4:=of_decide_eq_true c4
    have c5:c.B≠.unit:=by simpa using c5
    have hS:=hE.con f c hC
    have hw:=wfC_spec (hE.wf f c hC)
    obtain⟨vs,_,hv,hg,_⟩:=goes_opdV hE h _ _ _ _ hg
    split at hg
    ·rename_i m0 hnb hptr hm0
     obtain⟨mt,s,f2,hext,hinj,hkeys,hboxes,hg⟩:=goes_boxesIn (nb:=c.bs.length) (n:=c.lo) _ _ _ _ _ _ hg (matchShs_inj _ _ hm0 MtInj.nil) hw.sin (matchShs_keys _ _ hm0 (fun s hs=>hw.ash s (List.mem_of_mem_drop hs)) (fun k q hk=>by cases hk))
     obtain⟨fz,f3,z1,z2,z3,hg⟩:=goes_frz _ _ _ _ hg
     split at hg
     ·rename_i htm
      cases hg
      have hP:Passed st st mt:=⟨fun _ _ _ h=>h,fun _ _ _ h=>h,fun j t hj=>by rw[htm] at hj;cases hj⟩
      have hrel:=h.freezeAll z1
      have hsub:∀ b o,own { st with bx:=putL fz st.bx } M b o->own st M b o:=fun b o ⟨l,hl⟩=>⟨l,(frz_own z1 hl).1⟩
      have hcells:∀ k id q,look mt.bm k=some (id,q)->∀ cv,(look st.bx id=some (.rw cv)\/∃ z,look st.bx id=some (.ro z cv))->isMs cv.ty=false->∀ j,j<cv.ty.size->¬ own { st with bx:=putL fz st.bx } M (M.box id).1 ((M.box id).2+j):=by
       rintro k id q hk cv hcv hms j hj ⟨l,hl⟩
       obtain⟨g1,g2⟩:=frz_own z1 hl
       obtain⟨c',hc'⟩:=z2 k id q (look_mem hk)
       rcases hcv with hcv | ⟨z,hcv⟩
       ·exact g2 _ _ hc' (h.dis _ _ _ _ g1 (show reg st M (.b id) _ _ from⟨cv,hcv,(inBox.plain hms).2 ⟨rfl,by omega,by omega⟩⟩))
       ·obtain⟨c2',e2,_,hc2⟩:=z1 _ _ hc'
        rcases hc2 with hc2 | hc2
        ·rw[hcv] at hc2;cases hc2
        ·rw[hcv] at hc2
         cases hc2
         obtain⟨k1,k2,cs,r,kc⟩:=(h.ro _ _ _ hcv).1
         have hjl:j<cs.length:=by rw[r.len k1];exact hj
         exact(kc j _ (List.getElem?_eq_getElem hjl)).2 ⟨l,g1⟩
      refine StepOk.value (exec_makeFunc ho hfirst) ⟨M,Agree.refl _ _,?_⟩
      have hfin:=hrel.value (U':=fun k=>U k\/(id<=k/\k<id+1)) hd (fun k hk=>.inl hk) (fr:=1) (v:=.func (.func f) #[] (caps.map a.eval)) (u:=some ⟨.fn A B,fun a=>match extA c.A A a with
       | some a'=>match c.F (conIn c.A c.bs a' s) with
        | some r=>castTo B ⟨c.B,(conOut c.B (outL c.bs c.nb) r).1,.o⟩
        | none=>none
       | none=>none,.o⟩) (fun x hx=>?_)
      ·exact hfin.congr (fun _=>rfl) (fun _=>rfl) (fun _=>rfl)
      ·cases hx
       refine⟨⟨_,rfl,rfl,.inr ?_⟩,trivial⟩
       obtain⟨⟨fn,hf1,hf2,hf3⟩,hs⟩:=hS
       refine⟨f,_,fn,rfl,hf1,hf2,hf3,fun w' F hx hF hlive x args hr y hy=>?_⟩
       dsimp only at hy
       split at hy
       case h_2=>cases hy
       rename_i a' ha'
       split at hy
       case h_2=>cases hy
       rename_i r hr'
       obtain⟨e2,rfl⟩:=castTo_eq hy
       dsimp only at e2
       have hbs:∀ b∈c.bs,b.sout=none:=fun b hb=>by
        have:=List.all_eq_true.1 c6 b hb
        cases hso:b.sout with
        | none=>rfl
        | some _=>rw[hso] at this;cases this
       generalize hX:conIn c.A c.bs a' s=X at hr'
       have hcx:conArg c.A c.bs X=(a',s):=by rw[← hX,conArg_conIn]
       have hboxes':BoxesIn st mt c.bs 0 (conArg c.A c.bs X).2:=by rw[hcx];exact hboxes
       have hregF:∀ l b o,reg (inSt c X) (McOf M mt F) l b o->l=.s 0/\F b o:=by
        intro l b o hl
        rcases l with(_ | n) | n | n
        ·exact⟨rfl,hl⟩
        ·exact hl.elim
        ·obtain⟨v,h1,_⟩:=hl
         obtain⟨_,_,bb,xv,k3,k4,k5⟩:=initBx_look c.bs _ 0 n _ h1 hboxes'
         rcases k5 with⟨s,k5,_⟩ | ⟨_,k6⟩
         ·rw[hbs bb k3] at k5;cases k5
         ·cases k6
        ·obtain⟨_,q,h2,_⟩:=hl
         simp [McOf,htm,look] at h2
       have hown:own (inSt c X) (McOf M mt F)=F:=funext fun b=>funext fun o=>propext ⟨fun⟨l,hl⟩=>(hregF l b o hl).2,fun hf=>⟨.s 0,hf⟩⟩
       have hownN:ownN (inSt c X) (McOf M mt F)=noOwn:=funext fun b=>funext fun o=>propext ⟨fun⟨l,h0,hl⟩=>h0 (hregF l b o hl).1,fun hf=>hf.elim⟩
       have hlen:=hv.len
       have hcaps:ArgsOk P w' F (McOf M mt F) c.A a' c.ash (args++caps.toList.map a.eval):=by
        refine extArgs A c.A x a' c.ash args _ ha' hr (fun s hs=>of_decide_eq_true (List.all_eq_true.1 c3 s hs)) (fun D d h1 h2=>?_)
        have hvl:vs.length=caps.toList.length:=by rw[hlen];simp
        have hv':ValsIn P w (own st M) M U vs (caps.toList.map a.eval):=by
         have e:((caps.toList.map (·,(none:Option Ty))).map fun x=>a.eval x.1)=caps.toList.map a.eval:=by rw[List.map_map];rfl
         rw[e] at hv
         exact hv
        refine capsArgs (M:=M) (fun b o _ hb=>hsub b o hb) hx (O2:=F) (fun b o hb hf=>hF b o hb hf) D (c.ash.drop (chLen A)) vs _ (by omega) h1 (fun v hv=>of_decide_eq_true (List.all_eq_true.1 hptr v hv)) hm0 hext McOf_ok hv' (by rw[List.length_drop];omega)
       have hrel':Rel P w' (ownN (inSt c X) (McOf M mt F)) (args++caps.toList.map a.eval).toArray.size (·<c.lo) (McOf M mt F) (inSt c X) ⟨(args++caps.toList.map a.eval).toArray,[]⟩ w':=by
        refine⟨fun n v hn=>?_,fun id' v hv=>?_,fun id' z v hv=>?_,fun k hk=>?_,fun b o hb=>?_,fun l l' b o h1 h2=>?_,Keeps.refl _ _,rfl,rfl,fun id' v hv _=>?_⟩
        rotate_right
        ·obtain⟨_,_,bb,xv,k3,k4,k5⟩:=initBx_look c.bs _ 0 id' _ hv hboxes'
         rcases k5 with⟨s,k5,_⟩ | ⟨_,k6⟩
         ·rw[hbs bb k3] at k5;cases k5
         ·cases k6
        ·have hcaps':ArgsOk P w' F (McOf M mt F) c.A (conArg c.A c.bs X).1 c.ash (args++caps.toList.map a.eval):=by rw[hcx];exact hcaps
         obtain⟨_,k2,k3,k4⟩:=initSl_look (U:=(·<c.lo)) c.A _ c.ash _ 0 hcaps' (fun s hs=>shInB_in hw.le s (hw.ash s hs)) n v hn
         refine⟨?_,k4⟩
         rw[hown]
         have e:(args++caps.toList.map a.eval).toArray.getD n undef=(args++caps.toList.map a.eval).getD (n-0) undef:=by simp [Array.getD_eq_getD_getElem?,List.getD_eq_getElem?_getD]
         show RepV P v.ty w' _ _ v.val v.sh ((args++caps.toList.map a.eval).toArray.getD n undef)
         rw[e]
         exact k3
        ·obtain⟨_,_,bb,xv,k3,k4,k5⟩:=initBx_look c.bs _ 0 id' _ hv hboxes'
         rcases k5 with⟨s,k5,_⟩ | ⟨_,k6⟩
         ·rw[hbs bb k3] at k5;cases k5
         ·cases k6
        ·obtain⟨k1,k2,b,xv,k3,k4,k5⟩:=initBx_look c.bs _ 0 id' _ hv hboxes'
         rcases k5 with⟨s,k5,_⟩ | ⟨k5,k6⟩
         ·rw[hbs b k3] at k5;cases k5
         ·cases k6
          obtain⟨id2,q,off,cv,s',mi,mi',e1,e2,e3,e4,e5,e6,e7,e8,cs,e9,e10⟩:=boxIn_rep h hP (hw.std b k3) k4
          rw[hown,hownN]
          refine⟨⟨(std_ms (hw.std b k3)).2,(std_ms (hw.std b k3)).1,cs,?_,fun j u hj=>⟨?_,fun hf=>hf.elim⟩⟩,shInB_in hw.le _ (hw.sin b k3),by have:=hw.le;omega⟩
          ·exact(matchSh_rep (O':=own { st with bx:=putL fz st.bx } M) (fun b o _=>hsub b o) _ _ _ e7 (McOf_ok.anti e8) e9).mono P _ hx (fun b o hb hf=>hF b o hb hf) (ShAg.refl _ _)
          ·rw[McOf_ok.bm _ _ _ _ e1]
           have hcell:=e10 j u hj
           dsimp only
           rw[← hcell]
           have hjl:j<b.ty.size:=by
            rw[← e9.len (std_ms (hw.std b k3)).2]
            exact(List.getElem?_eq_some_iff.1 hj).1
           refine hx.cell _ _ (cell_lt hcell) ?_
           have:=hcells id' id2 (q,off) e1 cv (e2.imp (fun h=>h) fun h=>h.2) e3 (off+j) (by omega)
           rwa [← Nat.add_assoc] at this
        ·obtain⟨hk,_⟩:=look_true hk
         obtain⟨b,hb1,hb2⟩:=List.mem_flatMap.1 hk
         exact toks_lt _ (hw.sin b hb1) k hb2
        ·rw[hown] at hb
         obtain⟨l1,l2⟩:=hlive b o hb
         exact⟨l1,l2,.inr (.inr hb)⟩
        ·rw[(hregF _ _ _ h1).1,(hregF _ _ _ h2).1]
       rw[show args.toArray++caps.map a.eval=(args++caps.toList.map a.eval).toArray by
        apply Array.toList_inj.1;simp]
       refine(hs w' (McOf M mt F) _ X hrel' r hr').mono fun e w'' he=>?_
       obtain⟨v,M',rfl,hfr2,_,hout⟩:=he
       refine⟨v,rfl,?_,?_⟩
       ·have:=hout.keep;rwa [hownN] at this
       ·have hO:own (outSt c r) M'=F:=by
         refine(own_nil ?_ ?_).trans hfr2
         ·clear hout hr' hboxes' hX hcx hregF hown hownN hcaps hrel' hy
          obtain⟨cA,cash,cbs,cB,cbsh,cnb,cfr,cF⟩:=c
          dsimp only at *
          subst c4 hnb
          simp only[outSt]
          rw[msOf_o,List.append_nil]
          exact outBx_none cbs 0 _ hbs
         ·simp only[outSt]
          rw[c4,hnb,outToks_none hbs]
          rfl
        have hsl:look (outSt c r).sl 0=some (some ⟨c.B,(conOut c.B (outL c.bs c.nb) r).1,c.bsh⟩):=by
         clear hout hO hboxes' hX hcx hregF hown hownN hcaps hrel' hy
         unfold outSt
         dsimp only
         obtain⟨cA,cash,cbs,cB,cbsh,cnb,cfr,cF⟩:=c
         dsimp only at *
         generalize (conOut cB (outL cbs cnb) r).1=z
         cases cB<;>first | rfl | exact(c5 rfl).elim
        have hv:=(hout.sl 0 _ hsl).1
        rw[hO] at hv
        have hv:RepV P c.B w'' F M' (conOut c.B (outL c.bs c.nb) r).1 .o v:=by rw[c4] at hv;simpa [Array.getD_eq_getD_getElem?] using hv
        have hv:RepV P c.B w'' F default (conOut c.B (outL c.bs c.nb) r).1 .o v:=hv.mono P (Ext.refl _ _) (fun _ _ _ h=>h) trivial
        exact retRep_of hv e2
     ·cases hg
    ·cases hg
   ·cases hg
  ·cases hg
 ·rename_i x hfirst
  split at hg
  ·rename_i hcaps
   obtain⟨v,_,hv,hg,_⟩:=goes_opd hg
   obtain⟨rv,sv⟩:=opd_rep hE h hv
   split at hg
   ·rename_i bb q off
    cases hg
    obtain⟨pp,e1,e2⟩:=rep_ptr rv
    dsimp only[PtrSh] at e1 e2
    refine op_ret h hd (exec_makeFunc1 ho hfirst hcaps) ?_ ⟨sv,sv⟩
    show RepC P .nx w (own st M) M (false,(f:Int),0) (.pr (.box bb q off) (.mref bb)) [_]
    simp only[RepC,Int.toNat_natCast]
    rw[e1,e2]
   ·cases hg
  ·cases hg
 ·cases hg
end Go.VX
/- VX: iterators and maps: how a state goes on. -/
set_option linter.unusedVariables false
set_option linter.unusedSimpArgs false
namespace Go.VX
theorem Rel.newOb{P:Program} {w0:World} {I:Own} {nt:Nat} {U U':Nat->Prop} {M:Mp} {st:St} {a:Act} {w:World} (h:Rel P w0 I nt U M st a w) {dst:Option Tmp}
  (hd:∀ d,dst=some d->d<nt) {ta tb:Ty} {x:(Ty.tu ta tb).D} {X:Obj} {id:Nat} {hv:Vl} {v:Value}
  (hob:∀ (O:Own) (M':Mp),M'.box id=(w.heap.size,0)->ObOk P (w.alloc X) O M' id (.tu ta tb) x)
  (hr:∀ (O:Own) (M':Mp),M'.box id=(w.heap.size,0)->RepV P hv.ty (w.alloc X) O M' hv.val hv.sh v) (hs:ShIn U' hv.sh)
  (hid:¬ U id) (hU:∀ k,U k->U' k) (hU':U' id) {fr:Nat} :
  Rel P w0 I nt U' (M.setBox id (w.heap.size,0)) (st.patch dst { v:=some hv,bs:=[(id,.rw ⟨.tu ta tb,x,.o⟩)],fr:=fr }) (a.put dst v) (w.alloc X):=by
 have hA:=Mp.setBox_agree (M:=M) (p:=(w.heap.size,0)) hid
 have hx:∀ O,Ext O w (w.alloc X):=fun O=>Ext.alloc _ _ _
 have hreg:∀ l b o,reg (st.patch dst { v:=some hv,bs:=[(id,.rw ⟨.tu ta tb,x,.o⟩)],fr:=fr }) (M.setBox id (w.heap.size,0)) l b o->reg st M l b o:=by
  intro l b o hl
  by_cases hlid:l=.b id
  ·subst hlid
   obtain⟨v,h1,h2⟩:=hl
   simp only[St.patch,putL,look_cons,if_true,Option.some.injEq,Bx.rw.injEq] at h1
   subst h1
   exact h2.elim
  ·exact reg_old (st':=st.patch dst { v:=some hv,bs:=[(id,.rw ⟨.tu ta tb,x,.o⟩)],fr:=fr }) h hA (fun k v e hk=>by
    subst e
    have hne:¬ id=k:=fun e=>hlid (by rw[e])
    simpa only[St.patch,putL,look_cons,if_neg hne] using hk) (fun k _ hk=>hk) hl
 refine h.updO hU hA (hx _) (fun b o hb ⟨l,hl⟩=>⟨l,hreg l b o hl⟩) ?_ ?_ (hx _) (fun b o hb ⟨l,h0,hl⟩=>⟨l,h0,hreg l b o hl⟩) ?_ (fun k hk=>hU k (h.tk k hk)) ?_ (fun l l' b o h1 h2=>h.dis l l' b o (hreg l b o h1) (hreg l' b o h2))
  (h.keep.trans (Keeps.alloc (I:=noOwn) w _) (fun _ _ _ h=>h.elim)) (by rw[put_size];exact h.size) (by rw[put_defers];exact h.defs) ?_
 ·intro n y hn
  cases dst with
  | none=>exact .inl ⟨hn,rfl⟩
  | some d =>
   simp only[St.patch,look_cons] at hn
   split at hn
   ·rename_i hdn
    subst hdn
    right
    cases hn
    rw[put_getD_same (by rw[h.size];exact hd d rfl)]
    exact⟨hr _ _ Mp.setBox_same,hs⟩
   ·rename_i hdn
    exact .inl ⟨hn,put_getD (by simpa using hdn)⟩
 ·intro k y hk
  by_cases hkid:id=k
  ·subst hkid
   right
   simp only[St.patch,putL,look_cons,if_true,Option.some.injEq,Bx.rw.injEq] at hk
   subst hk
   exact⟨hob _ _ Mp.setBox_same,trivial,hU'⟩
  ·left
   have hk':look st.bx k=some (.rw y):=by simpa only[St.patch,putL,look_cons,if_neg hkid] using hk
   exact⟨hk',fun b o hb=>cell_alloc_old (h.own_lt ⟨.b k,y,hk',hb⟩),h.obj_keep (Keeps.alloc (I:=noOwn) w _) k y hk'⟩
 ·intro k z y hk
  by_cases hkid:id=k
  ·subst hkid
   simp only[St.patch,putL,look_cons,if_true] at hk
   cases hk
  ·exact .inl (by simpa only[St.patch,putL,look_cons,if_neg hkid] using hk)
 ·rintro b o ⟨l,hl⟩
  have h1:=hreg l b o hl
  have h2:=h.own_lt ⟨l,h1⟩
  rw[cell_alloc_old h2,clean_alloc_old h2]
  exact h.live b o ⟨l,h1⟩
 ·have hold:∀ k y,id≠k->look (st.patch dst { v:=some hv,bs:=[(id,.rw ⟨.tu ta tb,x,.o⟩)],fr:=fr }).bx k=some (.rw y)->look st.bx k=some (.rw y):=fun k y hne hk=>by
   simpa only[St.patch,putL,look_cons,if_neg hne] using hk
  have hbox:∀ k y,id≠k->look st.bx k=some (.rw y)->(M.setBox id (w.heap.size,0)).box k=M.box k:=fun k y hne hk=>by
   rw[(hA.2 k (h.bx k y hk).2.2).1]
  intro k y hk ht
  by_cases hkid:id=k
  ·subst hkid
   rw[Mp.setBox_same]
   refine⟨h.keep.size,fun k' y' hk' ht' he=>?_⟩
   by_cases hk2:id=k'
   ·exact hk2.symm
   ·have:=hold k' y' hk2 hk'
    rw[hbox k' y' hk2 this] at he
    have:=h.ob_lt this ht'
    dsimp only at he
    omega
  ·have h1:=hold k y hkid hk
   rw[hbox k y hkid h1]
   refine⟨(h.ob k y h1 ht).1,fun k' y' hk' ht' he=>?_⟩
   by_cases hk2:id=k'
   ·subst hk2
    rw[Mp.setBox_same] at he
    have:=h.ob_lt h1 ht
    dsimp only at he
    omega
   ·have h2:=hold k' y' hk2 hk'
    rw[hbox k' y' hk2 h2] at he
    exact(h.ob k y h1 ht).2 k' y' h2 ht' he
theorem setObj_cell{w:World} {r:Nat} {X Y:Obj} (hX:w.heap[r]?=some X) (hn:∀ c e f,X≠.cells c e f) (hn':∀ c e f,Y≠.cells c e f) (b o:Nat) :
  (({ w with heap:=w.heap.setIfInBounds r Y }:World)).cell? ⟨b,o,none⟩=w.cell? ⟨b,o,none⟩:=by
 have hr:=(Array.getElem?_eq_some_iff.1 hX).1
 simp only[World.cell?]
 by_cases hb:r=b
 ·subst hb
  rw[Array.getElem?_setIfInBounds_self_of_lt hr,hX]
  cases X<;>cases Y<;>first | rfl | exact(hn _ _ _ rfl).elim | exact(hn' _ _ _ rfl).elim
 ·rw[Array.getElem?_setIfInBounds_ne hb]
theorem setObj_frozen{w:World} {r:Nat} {X Y:Obj} (hX:w.heap[r]?=some X) (hn:∀ c e f,X≠.cells c e f) (hn':∀ c e f,Y≠.cells c e f) (b o:Nat) :
  (({ w with heap:=w.heap.setIfInBounds r Y }:World)).frozen? ⟨b,o,none⟩=w.frozen? ⟨b,o,none⟩:=by
 have hr:=(Array.getElem?_eq_some_iff.1 hX).1
 simp only[World.frozen?]
 by_cases hb:r=b
 ·subst hb
  rw[Array.getElem?_setIfInBounds_self_of_lt hr,hX]
  cases X<;>cases Y<;>first | rfl | exact(hn _ _ _ rfl).elim | exact(hn' _ _ _ rfl).elim
 ·rw[Array.getElem?_setIfInBounds_ne hb]
theorem Rel.setOb{P:Program} {w0:World} {I:Own} {nt:Nat} {U U':Nat->Prop} {M:Mp} {st:St} {a:Act} {w:World} (h:Rel P w0 I nt U M st a w) {dst:Option Tmp}
  (hd:∀ d,dst=some d->d<nt) {id:Nat} {c c':Vl} (hc:look st.bx id=some (.rw c)) (htc:c.ty.tup=true) (hin0:∀ b o,¬ inBox M id c'.ty b o) {X Y:Obj}
  (hX:w.heap[(M.box id).1]?=some X) (hn:∀ c e f,X≠.cells c e f) (hn':∀ c e f,Y≠.cells c e f) {pv:Option Vl} {v:Value}
  (hob:Ext (own st M) w { w with heap:=w.heap.setIfInBounds (M.box id).1 Y }->({ w with heap:=w.heap.setIfInBounds (M.box id).1 Y }:World).heap[(M.box id).1]?=some Y->BoxOk P { w with heap:=w.heap.setIfInBounds (M.box id).1 Y } (own st M) M id c') (hsh:c'.sh=.o)
  (hr:Ext (own st M) w { w with heap:=w.heap.setIfInBounds (M.box id).1 Y }->∀ x,pv=some x->RepV P x.ty { w with heap:=w.heap.setIfInBounds (M.box id).1 Y } (own st M) M x.val x.sh v/\ShIn U' x.sh) (hU:∀ k,U k->U' k) {fr:Nat} :
  Rel P w0 I nt U' M (st.patch dst { v:=pv,bs:=[(id,.rw c')],fr:=fr }) (a.put dst v) { w with heap:=w.heap.setIfInBounds (M.box id).1 Y }:=by
 have hcell:=setObj_cell hX hn hn'
 have hfroz:=setObj_frozen hX hn hn'
 have hlt:=(Array.getElem?_eq_some_iff.1 hX).1
 have hx:∀ O,Ext O w { w with heap:=w.heap.setIfInBounds (M.box id).1 Y }:=fun O=>⟨by simp,fun b o _ _=>hcell b o⟩
 have hreg:∀ l b o,reg (st.patch dst { v:=pv,bs:=[(id,.rw c')],fr:=fr }) M l b o->reg st M l b o:=by
  intro l b o hl
  cases l with
  | s n=>cases n<;>exact hl
  | b k =>
   obtain⟨y,h1,h2⟩:=hl
   simp only[St.patch,putL,look_cons] at h1
   split at h1
   ·rename_i e;subst e;cases h1;exact(hin0 _ _ h2).elim
   ·exact⟨y,h1,h2⟩
  | t k=>exact hl
 have hownle:∀ b o,own (st.patch dst { v:=pv,bs:=[(id,.rw c')],fr:=fr }) M b o->own st M b o:=fun b o ⟨l,hl⟩=>⟨l,hreg l b o hl⟩
 have hkeep:Keeps I w0 { w with heap:=w.heap.setIfInBounds (M.box id).1 Y }:=by
  refine⟨h.keep.os,h.keep.tape,h.keep.output,by simpa using h.keep.size,fun k y hy=>?_⟩
  have hk:k<w0.heap.size:=(Array.getElem?_eq_some_iff.1 hy).1
  have hne:(M.box id).1≠k:=fun e=>by have:=(h.ob id c hc htc).1;omega
  show KeepObj _ _ (w.heap.setIfInBounds (M.box id).1 Y)[k]?
  rw[Array.getElem?_setIfInBounds_ne hne]
  exact h.keep.block k y hy
 refine h.updO hU (Agree.refl _ _) (hx _) (fun b o _=>hownle b o) ?_ ?_ (hx _) (fun b o _ ⟨l,h0,hl⟩=>⟨l,h0,hreg l b o hl⟩) ?_ (fun k hk=>hU k (h.tk k hk)) ?_ (fun l l' b o h1 h2=>h.dis l l' b o (hreg l b o h1) (hreg l' b o h2))
  hkeep (by rw[put_size];exact h.size) (by rw[put_defers];exact h.defs) ?_
 ·intro n y hn2
  cases dst with
  | none=>exact .inl ⟨hn2,rfl⟩
  | some d =>
   simp only[St.patch,look_cons] at hn2
   split at hn2
   ·rename_i hdn
    subst hdn
    right
    rw[put_getD_same (by rw[h.size];exact hd d rfl)]
    obtain⟨r1,r2⟩:=hr (hx _) y (Option.some.inj hn2)
    exact⟨r1.mono P (Ext.refl _ _) (fun b o _=>hownle b o) (ShAg.refl _ _),r2⟩
   ·rename_i hdn
    exact .inl ⟨hn2,put_getD (by simpa using hdn)⟩
 ·intro k y hk
  by_cases hkid:id=k
  ·subst hkid
   right
   simp only[St.patch,putL,look_cons,if_true,Option.some.injEq,Bx.rw.injEq] at hk
   subst hk
   refine⟨(hob (hx _) (by show(w.heap.setIfInBounds _ _)[_]?=_;rw[Array.getElem?_setIfInBounds_self_of_lt hlt])).mono (Ext.refl _ _) (fun b o _=>hownle b o) (ShAg.refl _ _) rfl rfl (fun _ _ _=>rfl) (fun _=>rfl),?_,hU _ (h.bx _ _ hc).2.2⟩
   rw[hsh];trivial
  ·left
   have hk':look st.bx k=some (.rw y):=by simpa only[St.patch,putL,look_cons,if_neg hkid] using hk
   refine⟨hk',fun b o _=>hcell b o,fun ht=>?_⟩
   have hne:(M.box id).1≠(M.box k).1:=fun e=>hkid ((h.ob id c hc htc).2 k y hk' ht e.symm).symm
   show(w.heap.setIfInBounds _ _)[_]?=_
   rw[Array.getElem?_setIfInBounds_ne hne]
 ·intro k z y hk
  by_cases hkid:id=k
  ·subst hkid
   simp only[St.patch,putL,look_cons,if_true] at hk
   cases hk
  ·exact .inl (by simpa only[St.patch,putL,look_cons,if_neg hkid] using hk)
 ·rintro b o ⟨l,hl⟩
  have:=h.live b o ⟨l,hreg l b o hl⟩
  rw[hcell]
  exact⟨this.1,fun o'=>(hfroz b o').trans (this.2.1 o'),this.2.2⟩
 ·have hold:∀ k y,look (st.patch dst { v:=pv,bs:=[(id,.rw c')],fr:=fr }).bx k=some (.rw y)->y.ty.tup=true->∃ y0,look st.bx k=some (.rw y0)/\y0.ty.tup=true:=fun k y hk ht=>by
   by_cases hkid:id=k
   ·subst hkid;exact⟨c,hc,htc⟩
   ·exact⟨y,by simpa only[St.patch,putL,look_cons,if_neg hkid] using hk,ht⟩
  intro k y hk ht
  obtain⟨y0,k1,k2⟩:=hold k y hk ht
  refine⟨(h.ob k y0 k1 k2).1,fun k' y' hk' ht' he=>?_⟩
  obtain⟨y1,k3,k4⟩:=hold k' y' hk' ht'
  exact(h.ob k y0 k1 k2).2 k' y1 k3 k4 he
end Go.VX
/- VX: iterators and maps: the operations. -/
set_option linter.unusedVariables false
set_option linter.unusedSimpArgs false
namespace Go.VX
theorem byteS_strOf(s:ByteArray):byteS (strOf s)=s:=by
 unfold byteS strOf
 rw[List.map_map]
 have:((fun b:Int=>UInt8.ofNat b.toNat) ∘ fun b:UInt8=>((b.toNat:Nat):Int))=id:=by
  funext b
  simp
 rw[this,List.map_id]
theorem decode_le(s:ByteArray) (i:Nat):(Utf8.decode s i).1<=2097151:=by
 have hb:∀ k,(s.get! (i+k)).toNat<256:=fun k=>UInt8.toNat_lt _
 have h0:=hb 0
 have h1:=hb 1
 have h2:=hb 2
 have h3:=hb 3
 unfold Utf8.decode
 dsimp only
 repeat' split
 all_goals (dsimp only[Utf8.runeError];omega)
theorem ok_range{P:Program} {E:Env} (hE:EnvOk P E) {o:Oper} {m:Bool} {t:TypeId} {x:Operand} (ho:o.op=.range t x):OpOk P E o m:=by
 intro w0 I nt U M st a w id h hd
 refine⟨false,fun ω _ p f hg hfr=>?_⟩
 simp only[evOp,ho] at hg
 obtain⟨u,_,hu,hg,_⟩:=goes_opd hg
 obtain⟨ru,su⟩:=opd_rep hE h hu
 split at hg
 ·rename_i l sh
  split at hg
  ·rename_i hty
   replace hty:=of_decide_eq_true hty
   cases hg
   obtain⟨s,e1,e2,e3⟩:=rep_str ru
   dsimp only at e1 e2 e3
   have hid:¬ U id:=hfr id (Nat.le_refl _) (by show id<id+1;omega)
   refine StepOk.value (v:=.pointer (some ⟨w.heap.size,0,none⟩)) (w':=w.alloc (.stringIter s 0)) ?_
    ⟨_,Mp.setBox_agree hid,h.newOb (ta:=.str) (tb:=.int .i64) (x:=(l,(0:Int))) (X:=.stringIter s 0) (id:=id) (hv:=⟨.ptr,(),.box id [] 0⟩) hd (fun O M' hb=>⟨s,0,by rw[hb];exact(MapKept.heap_alloc w _).1,by rw[hb],e2,rfl,by rw[← strOf_length,e2];exact e3⟩) (fun O M' hb=>?_) (.inr ⟨Nat.le_refl _,by show id<id+1;omega⟩) hid (fun k hk=>.inl hk) (.inr ⟨Nat.le_refl _,by show id<id+1;omega⟩)⟩
   ·simp only[execOp,ho,e1,Instr.range,Sem.run_bind,run_underlying (chk_str (hE.ty _ _ hty)),Result.andThen_ok,Sem.run_pure,run_newObj]
    rfl
   ·refine⟨_,rfl,?_⟩
    show _=some _
    rw[hb]
  ·cases hg
 ·cases hg
theorem rep_nx_t{P:Program} {w:World} {O:Own} {M:Mp} {b:Bool} {p c:Int} (hb:b=true) (h1:IntKind.i64.min<=p/\p<=IntKind.i64.max) (h2:IntKind.i32.min<=c/\c<=IntKind.i32.max) :
  RepV P .nx w O M (b,p,c) .o (.tuple #[.bool true,.int .i64 p,.int .i32 c]):=by
 subst hb
 exact⟨rfl,fun _=>⟨h1,h2⟩⟩
theorem rep_nx_f{P:Program} {w:World} {O:Own} {M:Mp} {b:Bool} {p c:Int} (hb:b=false):RepV P .nx w O M (b,p,c) .o (.tuple #[.bool false]):=by
 subst hb
 exact⟨rfl,fun he=>by cases he⟩
theorem ok_next{P:Program} {E:Env} (hE:EnvOk P E) {o:Oper} {m:Bool} {x:Operand} {s:Bool} (ho:o.op=.next x s):OpOk P E o m:=by
 intro w0 I nt U M st a w id h hd
 refine⟨false,fun ω _ p f hg hfr=>?_⟩
 simp only[evOp,ho] at hg
 split at hg
 ·obtain⟨u,_,hu,hg,_⟩:=goes_opd hg
  obtain⟨ru,su⟩:=opd_rep hE h hu
  split at hg
  ·rename_i b
   obtain⟨c,_,hc,hg,_⟩:=goes_rdW hg
   split at hg
   ·rename_i q hq
    cases hg
    have hcv:=castTo_vl hq
    generalize c.sh=sc at hcv
    subst hcv
    obtain⟨pp,e1,e2⟩:=rep_ptr ru
    dsimp only[PtrSh] at e1 e2
    have hb:ObOk P w (own st M) M b (.tu .str (.int .i64)) q:=(h.bx _ _ hc).1
    obtain⟨s,pos,h1,h2,h3,h4,h5⟩:=hb
    rw[h2] at e2
    subst e2
    obtain⟨ql,qn⟩:=q
    dsimp only at h3 h4
    have h4:qn=(pos:Int):=h4
    subst h4
    have hbs:byteS ql=s:=by rw[← h3];exact byteS_strOf s
    have hl:List.length ql=s.size:=by rw[← h3];exact strOf_length s
    have hget:(getObj (M.box b).1).run P w=.ok (.stringIter s pos) w:=run_getIter h1
    have himin:IntKind.i64.min=-9223372036854775808:=by decide
    have himax:IntKind.i64.max=9223372036854775807:=by decide
    have hjmin:IntKind.i32.min=-2147483648:=by decide
    have hjmax:IntKind.i32.max=2147483647:=by decide
    have hdec:=decode_le s pos
    have hra:runeAt ql (pos:Int)=((Utf8.decode s pos).1:Int):=by
     unfold runeAt
     rw[hbs,Int.toNat_natCast]
    by_cases hlt:pos<s.size
    ·have hdt:decide ((pos:Int)<(List.length ql:Int))=true:=decide_eq_true (by rw[hl];exact Int.ofNat_lt.2 hlt)
     have hrt:runeTo ql (pos:Int)=((pos+(Utf8.decode s pos).2:Nat):Int):=by
      unfold runeTo
      rw[hdt]
      dsimp only
      rw[hbs,Int.toNat_natCast]
      rfl
     refine StepOk.value (v:=.tuple #[.bool true,goInt pos,.int .i32 ((Utf8.decode s pos).1:Int)]) (w':={ w with heap:=w.heap.setIfInBounds (M.box b).1 (.stringIter s (pos+(Utf8.decode s pos).2)) }) ?_
      ⟨M,Agree.refl _ _,h.setOb (c':=⟨.tu .str (.int .i64),(ql,runeTo ql (pos:Int)),.o⟩) (Y:=.stringIter s (pos+(Utf8.decode s pos).2)) (pv:=some ⟨.nx,(decide ((pos:Int)<(List.length ql:Int)),(pos:Int),runeAt ql (pos:Int)),.o⟩) hd hc rfl (fun _ _ h=>h) h1 (fun _ _ _ e=>by cases e) (fun _ _ _ e=>by cases e)
       (fun _ hs=>⟨s,_,hs,h2,h3,hrt,h5⟩) rfl (fun _ y hy=>?_) (fun k hk=>.inl hk)⟩
     ·simp only[execOp,ho,e1,Instr.next,Sem.run_bind,hget,Result.andThen_ok,hlt,if_true]
      simp [setObj,Sem.run,h1,Result.andThen_ok]
     ·cases hy
      rw[hra]
      exact⟨rep_nx_t hdt ⟨by rw[himin];omega,by rw[himax];omega⟩ ⟨by rw[hjmin];omega,by rw[hjmax];omega⟩,trivial⟩
    ·have hdf:decide ((pos:Int)<(List.length ql:Int))=false:=decide_eq_false (by rw[hl];exact fun k=>hlt (Int.ofNat_lt.1 k))
     have hrt:runeTo ql (pos:Int)=(pos:Int):=by
      unfold runeTo
      rw[hdf]
     have hsame:({ w with heap:=w.heap.setIfInBounds (M.box b).1 (.stringIter s pos) }:World)=w:=by
      have:w.heap.setIfInBounds (M.box b).1 (.stringIter s pos)=w.heap:=by
       apply Array.ext_getElem?
       intro i
       have hr:=(Array.getElem?_eq_some_iff.1 h1).1
       by_cases hi:(M.box b).1=i
       ·subst hi;rw[Array.getElem?_setIfInBounds_self_of_lt hr,h1]
       ·rw[Array.getElem?_setIfInBounds_ne hi]
      rw[this]
     have hrel:=h.setOb (dst:=o.dst) (U':=fun k=>U k\/(id<=k/\k<id+1)) (fr:=1) (c':=⟨.tu .str (.int .i64),(ql,runeTo ql (pos:Int)),.o⟩) (Y:=.stringIter s pos) (pv:=some ⟨.nx,(decide ((pos:Int)<(List.length ql:Int)),(pos:Int),runeAt ql (pos:Int)),.o⟩) (v:=.tuple #[.bool false])
      hd hc rfl (fun _ _ h=>h) h1 (fun _ _ _ e=>by cases e) (fun _ _ _ e=>by cases e) (fun _ hs=>⟨s,pos,hs,h2,h3,hrt,h5⟩) rfl (fun _ y hy=>by
       cases hy
       exact⟨rep_nx_f hdf,trivial⟩) (fun k hk=>.inl hk)
     rw[hsame] at hrel
     refine StepOk.value (v:=.tuple #[.bool false]) (w':=w) ?_ ⟨M,Agree.refl _ _,hrel⟩
     simp only[execOp,ho,e1,Instr.next,Sem.run_bind,hget,Result.andThen_ok,hlt,if_false,Sem.run_pure]
   ·cases hg
  ·cases hg
 ·cases hg
end Go.VX
