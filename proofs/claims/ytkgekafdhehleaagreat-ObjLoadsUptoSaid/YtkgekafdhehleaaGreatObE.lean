/- Equality of object code: the reference's. -/
import Derived.Test.YtkgekafdhehleaaGreatObD
set_option linter.unusedVariables false
set_option linter.unusedSimpArgs false
set_option maxRecDepth 4000
namespace Go.Ac
open Go.Proofs
theorem On.ext' {x y:On} (h0:x.nm=y.nm) (h1:x.t=y.t) (h2:x.tag=y.tag):x=y:=by cases x;cases y;simp only at *;subst h0 h1 h2;rfl
theorem Mm.ext' {x y:Mm} (h0:x.nm=y.nm) (h1:x.t=y.t) (h2:x.ini=y.ini):x=y:=by cases x;cases y;simp only at *;subst h0 h1 h2;rfl
theorem Ii.ext' {x y:Ii} (h0:x.nm=y.nm) (h1:x.cl=y.cl):x=y:=by cases x;cases y;simp only at *;subst h0 h1;rfl
def pE (l:List En):V:= .agg [.d (.slice (f9 l)),.d (.slice [])]
structure Wl where
 en:List En
end Go.Ac
