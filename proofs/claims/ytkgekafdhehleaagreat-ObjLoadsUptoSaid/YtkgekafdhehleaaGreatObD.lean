/- Equality of object code: the program's. -/
import Derived.Test.YtkgekafdhehleaaGreatObCM
set_option linter.unusedVariables false
set_option linter.unusedSimpArgs false
set_option maxRecDepth 4000
namespace Go.Ac
open Go.Proofs
theorem X.ext {x y:X} (h0:x.k=y.k) (h1:x.o=y.o) (h2:x.t=y.t) (h3:x.v=y.v) (h4:x.nm=y.nm) (h5:x.args=y.args):x=y:=by
 cases x;cases y;simp only[X.k,X.o,X.t,X.v,X.nm,X.args] at *;subst h0 h1 h2 h3 h4 h5;rfl
theorem Y.ext {x y:Y} (h0:x.k=y.k) (h1:x.nm=y.nm) (h2:x.t=y.t) (h3:x.r=y.r) (h4:x.outs=y.outs) (h5:x.args=y.args) (h6:x.brs=y.brs):x=y:=by
 cases x;cases y;simp only[Y.k,Y.nm,Y.t,Y.r,Y.outs,Y.args,Y.brs] at *;subst h0 h1 h2 h3 h4 h5 h6;rfl
theorem Dc.ext' {x y:Dc} (h0:x.nm=y.nm) (h1:x.t=y.t) (h2:x.ck=y.ck):x=y:=by cases x;cases y;simp only at *;subst h0 h1 h2;rfl
theorem En.ext' {x y:En} (h0:x.nm=y.nm) (h1:x.tags=y.tags):x=y:=by cases x;cases y;simp only at *;subst h0 h1;rfl
theorem Cl.ext' {x y:Cl} (h0:x.nm=y.nm) (h1:x.inn=y.inn) (h2:x.out=y.out) (h3:x.loc=y.loc) (h4:x.mems=y.mems) (h5:x.ins=y.ins) (h6:x.step=y.step):x=y:=by cases x;cases y;simp only at *;subst h0 h1 h2 h3 h4 h5 h6;rfl
theorem Oc.ext' {x y:Oc} (h0:x.en=y.en) (h1:x.cl=y.cl):x=y:=by cases x;cases y;simp only at *;subst h0 h1;rfl
theorem aYA (r:Nat):Ob.keep 40 r=Ob.k40 r:=by kernel_rfl
attribute [local simp] aYA Ob.k40
theorem aWP (r:Nat):Ob.keep 43 r=Ob.k43 r:=by kernel_rfl
attribute [local simp] aWP Ob.k43
theorem aYH (r:Nat):Ob.keep 16 r=Ob.k16 r:=by kernel_rfl
attribute [local simp] aYH Ob.k16
end Go.Ac
