/- Loops that go up: until what is asked does not hold; lists made out of lists. -/
import Derived.Test.YtmomjjgokeffnaaGreatP0RunParts
set_option linter.unusedVariables false
set_option linter.unusedSimpArgs false
namespace Go.Proofs.YtmomjjgokeffnaaGreat.F
open Go.VX
open Classical
theorem scan_loop{ρ:Type} (p:Int->Prop) (a b:Int) (hab:a<=b) (f:Int×Unit->Option ((Int×Unit) ⊕ ρ)) (stop:Int->ρ) (fin:ρ)
  (h1:∀ i,a<=i->i<b->(∀ j,a<=j->j<i->p j)->(p i->f (i,())=some (.inl (i+1,())))/\(¬ p i->f (i,())=some (.inr (stop i)))) (h2:(∀ j,a<=j->j<b->p j)->f (b,())=some (.inr fin)) :
  (∃ i,a<=i/\i<b/\¬ p i/\(∀ j,a<=j->j<i->p j)/\loopP f (a,())=some (stop i))\/((∀ j,a<=j->j<b->p j)/\loopP f (a,())=some fin):=by
 have key:∀ n:Nat,a+n<=b->(∃ i,a<=i/\i<a+n/\¬ p i/\(∀ j,a<=j->j<i->p j)/\loopP f (a,())=some (stop i))\/((∀ j,a<=j->j<a+n->p j)/\loopP f (a,())=loopP f (a+n,())):=by
  intro n
  induction n with
  | zero=>intro _;exact .inr ⟨fun j h1 h2=>by omega,by rw[show a+((0:Nat):Int)=a by omega]⟩
  | succ n ih =>
   intro hn
   rcases ih (by omega) with⟨i,a1,a2,a3,a4,a5⟩ | ⟨a1,a2⟩
   ·exact .inl ⟨i,a1,by omega,a3,a4,a5⟩
   ·have hs:=h1 (a+n) (by omega) (by omega) a1
    by_cases hp:p (a+n)
    ·refine .inr ⟨fun j h1 h2=>?_,?_⟩
     ·by_cases hj:j<a+n
      ·exact a1 j h1 hj
      ·rw[show j=a+n by omega];exact hp
     ·rw[a2,loopP_step (hs.1 hp),show a+((n+1:Nat):Int)=a+n+1 by omega]
    ·exact .inl ⟨a+n,by omega,by omega,hp,a1,by rw[a2,loopP_done (hs.2 hp)]⟩
 rcases key (b-a).toNat (by omega) with⟨i,a1,a2,a3,a4,a5⟩ | ⟨a1,a2⟩
 ·exact .inl ⟨i,a1,by omega,a3,a4,a5⟩
 ·have hb:a+((b-a).toNat:Int)=b:=by omega
  rw[hb] at a1 a2
  exact .inr ⟨a1,by rw[a2,loopP_done (h2 a1)]⟩
theorem scan_eq{ρ:Type} (p:Int->Prop) (a b:Int) (hab:a<=b) (f:Int×Unit->Option ((Int×Unit) ⊕ (Unit ⊕ ρ))) (K:Unit->Option ρ) (stop:Int->ρ) (r:ρ)
  (h1:∀ i,a<=i->i<b->(p i->f (i,())=some (.inl (i+1,())))/\(¬ p i->f (i,())=some (.inr (.inr (stop i))))) (h2:f (b,())=some (.inr (.inl ())))
  (H:(∃ i,a<=i/\i<b/\¬ p i/\(∀ j,a<=j->j<i->p j)/\stop i=r)\/((∀ j,a<=j->j<b->p j)/\K ()=some r)):bndS (loopP f (a,())) K=some r:=by
 rcases scan_loop p a b hab f (fun i=>.inr (stop i)) (.inl ()) (fun i i0 i1 _=>h1 i i0 i1) (fun _=>h2) with⟨i,a1,a2,a3,a4,a5⟩ | ⟨a1,a2⟩
 ·rw[a5]
  rcases H with⟨j,b1,b2,b3,b4,b5⟩ | ⟨b1,_⟩
  ·have:i=j:=by
    rcases Int.lt_trichotomy i j with h | h | h
    ·exact(a3 (b4 i a1 h)).elim
    ·exact h
    ·exact(b3 (a4 j b1 h)).elim
   rw[this,b5]
   rfl
  ·exact(a3 (b1 i a1 a2)).elim
 ·rw[a2]
  rcases H with⟨j,b1,b2,b3,_⟩ | ⟨_,b2⟩
  ·exact(b3 (a1 j b1 b2)).elim
  ·exact b2
end Go.Proofs.YtmomjjgokeffnaaGreat.F
