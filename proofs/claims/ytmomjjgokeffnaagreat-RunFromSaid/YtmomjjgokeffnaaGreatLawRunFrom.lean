/- The row of the law RunFrom: out of the pure statement, and the contract of the law's function. -/
import Derived.Test.YtmomjjgokeffnaaGreatRows
import Derived.Test.YtmomjjgokeffnaaGreatVx3
import Derived.Test.YtmomjjgokeffnaaGreatFRunFrom
import Derived.Test.YtmomjjgokeffnaaGreatPureRunFrom
import Derived.WalkKit
import Derived.ProofKit
import Derived.OpenShut
import Derived.ShutString
import Derived.ChangeOld
import Derived.Below
import Derived.Carry
namespace Go.Proofs.YtmomjjgokeffnaaGreat.runFrom
open Go.ChangeShapes Go.WideShapes Go.ChangeAt Go.RowKit
set_option linter.unusedVariables false
theorem own:ownKnob Tryz.prog.godebug=none:=by kernel_rfl
theorem laidOut:laidOutB Tryz.prog=true:=by kernel_rfl
set_option maxRecDepth 100000 in
theorem lifted(os:Os) (started:os.Started) (H:Type) (enc:TypeId×Value->H) :
  ReturnsInHanded {} Tryz.checked os 7 .any (Rows.runFromSpec.pre6 enc Tryz.prog Tryz.f7 Rows.runFromRow.domain false) (Rows.runFromSpec.post enc Tryz.prog Tryz.f7 false true false false):=by
 refine returnsInHanded_of_change (C:=Tryz.checked) own started (by kernel_rfl) Tryz.func7
  (ChangeSpec.witness6 (enc:=enc) (C:=Tryz.checked) false ⟨#[],#[(Go.VX.valOf (Go.VX.Ty.agg Go.Proofs.YtmomjjgokeffnaaGreat.F.T34) (Go.VX.zc Go.Proofs.YtmomjjgokeffnaaGreat.F.T34)),(Go.VX.valOf (Go.VX.Ty.agg Go.Proofs.YtmomjjgokeffnaaGreat.F.T44) (Go.VX.zc Go.Proofs.YtmomjjgokeffnaaGreat.F.T44)),(Go.VX.valOf (Go.VX.Ty.agg Go.Proofs.YtmomjjgokeffnaaGreat.F.T83) (Go.VX.zc Go.Proofs.YtmomjjgokeffnaaGreat.F.T83))],[]⟩ 8 (by kernel_rfl) (by kernel_rfl) (by kernel_rfl) (by kernel_rfl)) ?_
 intro W base args ds gs before hval0 hW hcnd _
 have hval:∀ (j:Nat) t v,Tryz.f7.params[j]?=some t->args[j]?=some v->Value.okWide Tryz.prog W .any base t v:=hval0
 have hW':=hW
 obtain⟨p,q,hA0,hV,rfl,hfz,hnd⟩:=hW
 have hA:DataW.TrodAll enc Tryz.prog W 0 (fun _=>true) true Tryz.f7.params.toList args.toList ds p:=hA0
 rw[Tryz.params7] at hA hval
 obtain⟨v0,vs0,d0,ds0,p0,q0,hargs,rfl,rfl,h0,r0⟩:=trodAll_cons hA
 obtain⟨v1,vs1,d1,ds1,p1,q1,rfl,rfl,rfl,h1,r1⟩:=trodAll_cons r0
 obtain⟨v2,vs2,d2,ds2,p2,q2,rfl,rfl,rfl,h2,r2⟩:=trodAll_cons r1
 obtain⟨rfl,rfl,rfl⟩:=trodAll_nil r2
 obtain rfl:args=#[v0,v1,v2]:=by cases args;simp_all
 obtain⟨rfl,rfl⟩:=trodVars_none hV
 obtain⟨y0,e0,w0⟩:=Go.VX.open_val (τ:=Go.Proofs.YtmomjjgokeffnaaGreat.F.T34) (by kernel_rfl) (hval 0 34 v0 rfl rfl) h0
 have lt0:∀ x∈p0,x.block<W.heap.size:=by obtain⟨m,hm⟩:=h0;exact DataW.trod_lt m _ _ _ hm
 obtain⟨y1,e1,w1⟩:=Go.VX.open_val (τ:=Go.Proofs.YtmomjjgokeffnaaGreat.F.T44) (by kernel_rfl) (hval 1 44 v1 rfl rfl) h1
 have lt1:∀ x∈p1,x.block<W.heap.size:=by obtain⟨m,hm⟩:=h1;exact DataW.trod_lt m _ _ _ hm
 obtain⟨y2,e2,w2⟩:=Go.VX.open_val (τ:=Go.Proofs.YtmomjjgokeffnaaGreat.F.T83) (by kernel_rfl) (hval 2 83 v2 rfl rfl) h2
 have lt2:∀ x∈p2,x.block<W.heap.size:=by obtain⟨m,hm⟩:=h2;exact DataW.trod_lt m _ _ _ hm
 refine(Or.elim (Go.Proofs.YtmomjjgokeffnaaGreat.F.pure_RunFrom (y0,y1,y2,()) ⟨w0,w1,w2,trivial⟩) (fun hp=>Go.VX.law_calls Go.Proofs.YtmomjjgokeffnaaGreat.F.s_l39_RunFrom.1 (by kernel_rfl) (args:=[v0,v1,v2]) (x:=(y0,y1,y2,())) ⟨e0,rfl,e1,rfl,e2,rfl,trivial⟩ hp) (fun hp=>Go.VX.law_calls Go.Proofs.YtmomjjgokeffnaaGreat.F.s_l39_RunFromB.1 (by kernel_rfl) (args:=[v0,v1,v2]) (x:=(y0,y1,y2,())) ⟨e0,rfl,e1,rfl,e2,rfl,trivial⟩ hp)).mono fun e W' ⟨he,bel⟩=>?_
 subst he
 exact⟨_,rfl,_,_,_,[],_,[],hW',trodAll_mk1 (shut_bool Tryz.underlying4 _),(trodAll_cons_mk (Below.trod laidOut (by kernel_rfl) (of_decide_eq_true (by kernel_rfl)) h0 bel lt0) (trodAll_cons_mk (Below.trod laidOut (by kernel_rfl) (of_decide_eq_true (by kernel_rfl)) h1 bel lt1) (trodAll_cons_mk (Below.trod laidOut (by kernel_rfl) (of_decide_eq_true (by kernel_rfl)) h2 bel lt2) trodAll_mk0))),rfl,bel.frame _,fun h=>by cases h⟩
theorem over:Rows.runFromRow.holds Tryz.pinned (OpenSpec.ofChange Rows.runFromSpec) :=
 OpenClaim.holds_of_wide 7 Tryz.f7 rfl rfl rfl rfl rfl rfl rfl ⟨rfl,rfl,rfl,rfl,rfl⟩ rfl rfl rfl rfl rfl (by kernel_rfl) Tryz.func7 (by kernel_rfl)
  (of_decide_eq_true (by kernel_rfl)) (by unfold Func.isWrapper;first | (rw[if_pos (by decide +kernel)];kernel_rfl) | (rw[if_neg (by decide +kernel)];exact⟨rfl,rfl⟩))
  (fun os started H enc _=>lifted os started H enc)
theorem proved:Rows.RunFromSaid:=over
end Go.Proofs.YtmomjjgokeffnaaGreat.runFrom
namespace Go.Proofs.YtmomjjgokeffnaaGreat
theorem runFrom_holds:Rows.RunFromSaid:=runFrom.proved
#print axioms runFrom_holds
end Go.Proofs.YtmomjjgokeffnaaGreat
