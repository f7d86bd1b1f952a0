/- Loops over lists: every element turned in its place; every element turned and appended. What a recipe that is light holds. -/
import Derived.Test.YtmomjjgokeffnaaGreatP0RunParts
import Derived.Test.YtmomjjgokeffnaaGreatFRunParts
set_option linter.unusedVariables false
set_option linter.unusedSimpArgs false
namespace Go.Proofs.YtmomjjgokeffnaaGreat.F
open Go.VX
theorem nth_ext{α:Type} (z:α) {a b:List α} (hl:a.length=b.length) (h:∀ i,i<a.length->nth z a i=nth z b i):a=b:=by
 refine List.ext_getElem hl fun i h1 h2=>?_
 have:=h i h1
 simpa [nth,List.getD,h1,h2] using this
theorem nth_map{α β:Type} (z:α) (w:β) (g:α->β) {l:List α} {i:Nat} (h:i<l.length):nth w (l.map g) i=g (nth z l i):=by
 simp [nth,List.getD,h]
theorem nth_set{α:Type} (z:α) (a:List α) (i j:Nat) (d:α) (h:i<a.length):nth z (a.set i d) j=if i=j then d else nth z a j:=by
 by_cases e:i=j
 ·subst e;simp [nth,List.getD,h]
 ·simp [nth,List.getD,e]
theorem amb_same{α:Type} (b:Bool) (k:Bool->Option α) (h:b=true->k true=k false):amb b k=k false:=by
 cases b with
 | false=>rfl
 | true =>
  simp only[amb]
  split
  ·rfl
  ·rename_i hn _
   exact(hn (h rfl)).elim
theorem clone_ok{α:Type} (l:List α) (lim:Nat) (h:l.length<=lim):(amb l.isEmpty fun q1=>cnd q1 (some []) (bnd (app lim [] l) fun v2=>some v2))=some l:=by
 rw[amb_same _ _ (fun hb=>by
  have:l=[]:=by simpa using hb
  subst this
  rfl),cnd_f,app_ok (by simpa using h)]
 rfl
end Go.Proofs.YtmomjjgokeffnaaGreat.F
