/- Loops over lists: every element turned in its place; every element turned and appended. What a recipe that is light holds. -/
import Derived.Test.YtmomjjgokeffnaaGreatP0EngineRates
import Derived.Test.YtmomjjgokeffnaaGreatFEngineRates
set_option linter.unusedVariables false
set_option linter.unusedSimpArgs false
namespace Go.Proofs.YtmomjjgokeffnaaGreat.F
open Go.VX
theorem nth_ext{α:Type} (z:α) {a b:List α} (hl:a.length=b.length) (h:∀ i,i<a.length->nth z a i=nth z b i):a=b:=by
 refine List.ext_getElem hl fun i h1 h2=>?_
 have:=h i h1
 simpa [nth,List.getD,h1,h2] using this
theorem nth_map{α β:Type} (z:α) (w:β) (g:α->β) {l:List α} {i:Nat} (h:i<l.length):nth w (l.map g) i=g (nth z l i):=by
 simp [nth,List.getD,h]
theorem nth_set{α:Type} (z:α) (a:List α) (i j:Nat) (d:α) (h:i<a.length):nth z (a.set i d) j=if i=j then d else nth z a j:=by
 by_cases e:i=j
 ·subst e;simp [nth,List.getD,h]
 ·simp [nth,List.getD,e]
end Go.Proofs.YtmomjjgokeffnaaGreat.F
