/- The row of the law EngineRates: out of the pure statement, and the contract of the law's function. -/
import Derived.Test.YtmomjjgokeffnaaGreatRows
import Derived.Test.YtmomjjgokeffnaaGreatVx3
import Derived.Test.YtmomjjgokeffnaaGreatFEngineRates
import Derived.Test.YtmomjjgokeffnaaGreatPureEngineRates
import Derived.WalkKit
import Derived.ProofKit
import Derived.OpenShut
import Derived.ShutString
import Derived.ChangeOld
import Derived.Below
import Derived.Carry
namespace Go.Proofs.YtmomjjgokeffnaaGreat.engineRates
open Go.ChangeShapes Go.WideShapes Go.ChangeAt Go.RowKit
set_option linter.unusedVariables false
theorem own:ownKnob Tryz.prog.godebug=none:=by kernel_rfl
theorem laidOut:laidOutB Tryz.prog=true:=by kernel_rfl
set_option maxRecDepth 100000 in
theorem lifted(os:Os) (started:os.Started) (H:Type) (enc:TypeId×Value->H) :
  ReturnsInHanded {} Tryz.checked os 4 .any (Rows.engineRatesSpec.pre6 enc Tryz.prog Tryz.f4 Rows.engineRatesRow.domain false) (Rows.engineRatesSpec.post enc Tryz.prog Tryz.f4 false true false false):=by
 refine returnsInHanded_of_change (C:=Tryz.checked) own started (by kernel_rfl) Tryz.func4
  (ChangeSpec.witness6 (enc:=enc) (C:=Tryz.checked) false ⟨#[],#[(Go.VX.valOf (Go.VX.Ty.agg Go.Proofs.YtmomjjgokeffnaaGreat.F.T34) (Go.VX.zc Go.Proofs.YtmomjjgokeffnaaGreat.F.T34)),(Go.VX.valOf (Go.VX.Ty.agg Go.Proofs.YtmomjjgokeffnaaGreat.F.T44) (Go.VX.zc Go.Proofs.YtmomjjgokeffnaaGreat.F.T44))],[]⟩ 8 (by kernel_rfl) (by kernel_rfl) (by kernel_rfl) (by kernel_rfl)) ?_
 intro W base args ds gs before hval0 hW hcnd _
 have hval:∀ (j:Nat) t v,Tryz.f4.params[j]?=some t->args[j]?=some v->Value.okWide Tryz.prog W .any base t v:=hval0
 have hW':=hW
 obtain⟨p,q,hA0,hV,rfl,hfz,hnd⟩:=hW
 have hA:DataW.TrodAll enc Tryz.prog W 0 (fun _=>true) true Tryz.f4.params.toList args.toList ds p:=hA0
 rw[Tryz.params4] at hA hval
 obtain⟨v0,vs0,d0,ds0,p0,q0,hargs,rfl,rfl,h0,r0⟩:=trodAll_cons hA
 obtain⟨v1,vs1,d1,ds1,p1,q1,rfl,rfl,rfl,h1,r1⟩:=trodAll_cons r0
 obtain⟨rfl,rfl,rfl⟩:=trodAll_nil r1
 obtain rfl:args=#[v0,v1]:=by cases args;simp_all
 obtain⟨rfl,rfl⟩:=trodVars_none hV
 obtain⟨y0,e0,w0⟩:=Go.VX.open_val (τ:=Go.Proofs.YtmomjjgokeffnaaGreat.F.T34) (by kernel_rfl) (hval 0 34 v0 rfl rfl) h0
 have lt0:∀ x∈p0,x.block<W.heap.size:=by obtain⟨m,hm⟩:=h0;exact DataW.trod_lt m _ _ _ hm
 obtain⟨y1,e1,w1⟩:=Go.VX.open_val (τ:=Go.Proofs.YtmomjjgokeffnaaGreat.F.T44) (by kernel_rfl) (hval 1 44 v1 rfl rfl) h1
 have lt1:∀ x∈p1,x.block<W.heap.size:=by obtain⟨m,hm⟩:=h1;exact DataW.trod_lt m _ _ _ hm
 refine(Go.VX.law_calls Go.Proofs.YtmomjjgokeffnaaGreat.F.s_l38_EngineRates.1 (by kernel_rfl) (args:=[v0,v1]) (x:=(y0,y1,())) ⟨e0,rfl,e1,rfl,trivial⟩ (Go.Proofs.YtmomjjgokeffnaaGreat.F.pure_EngineRates (y0,y1,()) ⟨w0,w1,trivial⟩)).mono fun e W' ⟨he,bel⟩=>?_
 subst he
 exact⟨_,rfl,_,_,_,[],_,[],hW',trodAll_mk1 (shut_bool Tryz.underlying4 _),(trodAll_cons_mk (Below.trod laidOut (by kernel_rfl) (of_decide_eq_true (by kernel_rfl)) h0 bel lt0) (trodAll_cons_mk (Below.trod laidOut (by kernel_rfl) (of_decide_eq_true (by kernel_rfl)) h1 bel lt1) trodAll_mk0)),rfl,bel.frame _,fun h=>by cases h⟩
theorem over:Rows.engineRatesRow.holds Tryz.pinned (OpenSpec.ofChange Rows.engineRatesSpec) :=
 OpenClaim.holds_of_wide 4 Tryz.f4 rfl rfl rfl rfl rfl rfl rfl ⟨rfl,rfl,rfl,rfl,rfl⟩ rfl rfl rfl rfl rfl (by kernel_rfl) Tryz.func4 (by kernel_rfl)
  (of_decide_eq_true (by kernel_rfl)) (by unfold Func.isWrapper;first | (rw[if_pos (by decide +kernel)];kernel_rfl) | (rw[if_neg (by decide +kernel)];exact⟨rfl,rfl⟩))
  (fun os started H enc _=>lifted os started H enc)
theorem proved:Rows.EngineRatesSaid:=over
end Go.Proofs.YtmomjjgokeffnaaGreat.engineRates
namespace Go.Proofs.YtmomjjgokeffnaaGreat
theorem engineRates_holds:Rows.EngineRatesSaid:=engineRates.proved
#print axioms engineRates_holds
end Go.Proofs.YtmomjjgokeffnaaGreat
