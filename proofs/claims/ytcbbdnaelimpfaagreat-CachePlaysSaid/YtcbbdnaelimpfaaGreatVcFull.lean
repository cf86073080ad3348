/- append to a slice that is full: a new block. -/
import Derived.Test.YtcbbdnaelimpfaaGreatVcG
namespace Go.Vc
open Go
set_option linter.unusedSimpArgs false
set_option linter.unusedVariables false
set_option linter.unusedSectionVars false
section
variable {P:Program} {q:Bool} {K:VP} {h:Heap}
end
end Go.Vc
namespace Go.Vc
open Go
section
variable {P:Program} {h:Heap}
theorem OwnG.set {e s n c i:Nat} {a:Addr} {vs:List Value} {u:Value} (o:OwnG e s h (.slice (some a) n c) vs) (hi:i<vs.length):OwnG e s (hset h (Go.Vc.elt a i) u) (.slice (some a) n c) (vs.set i u):=by
 rcases o with ⟨a,hv,rfl⟩|⟨b',o',n',c',pre,rest,hv,h1,h2,h3,h4,h5⟩
 ·cases hi
 ·cases hv
  subst h3
  refine .inr ⟨b',pre.length,n,c',pre,rest,rfl,by rw [List.length_set]; exact h1,h2,rfl,?_,by simpa using h5⟩
  rw [elt_mk]
  refine (obj_set h4).trans ?_
  congr 2
  simp only [List.setIfInBounds_toArray]
  congr 1
  rw [List.append_assoc,List.append_assoc,List.set_append_right _ _ omg,List.set_append_left _ _ omg]
  congr 3; omega
end
end Go.Vc
