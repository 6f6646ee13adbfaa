/- Equality of object code: the program's. -/
import Derived.Test.YtkgekafdhehleaaGreatAcA
import Derived.Test.YtkgekafdhehleaaGreatAcB
import Derived.Test.YtkgekafdhehleaaGreatAcDM
import Derived.Test.YtkgekafdhehleaaGreatAcQM
import Derived.Test.YtkgekafdhehleaaGreatAcUM
import Derived.Test.YtkgekafdhehleaaGreatAcUcM
import Derived.Test.YtkgekafdhehleaaGreatObHn
import Derived.Test.YtkgekafdhehleaaGreatObCM
import Derived.Calls
import Derived.Orders
import Derived.Laws.World
import Derived.Laws.Sem
import Derived.Laws.Cells
import Derived.Laws.Append
import GoSem.ClaimData
import Derived.Laws.Tables
import Derived.Laws.Slices
import Derived.Laws.Strings
import Derived.Laws.Small
import Derived.KernelRfl
import Derived.Test.YtkgekafdhehleaaGreatChecked
set_option linter.unusedVariables false
set_option linter.unusedSimpArgs false
set_option maxRecDepth 4000
set_option linter.unusedSimpArgs false
set_option linter.unusedVariables false
namespace Go.Ac
open Go.Proofs
theorem X.ext {x y : X} (h0 : x.k = y.k) (h1 : x.o = y.o) (h2 : x.t = y.t) (h3 : x.v = y.v) (h4 : x.nm = y.nm) (h5 : x.args = y.args) : x = y := by
  cases x; cases y; simp only [X.k, X.o, X.t, X.v, X.nm, X.args] at *; subst h0 h1 h2 h3 h4 h5; rfl
theorem Y.ext {x y : Y} (h0 : x.k = y.k) (h1 : x.nm = y.nm) (h2 : x.t = y.t) (h3 : x.r = y.r) (h4 : x.outs = y.outs) (h5 : x.args = y.args) (h6 : x.brs = y.brs) : x = y := by
  cases x; cases y; simp only [Y.k, Y.nm, Y.t, Y.r, Y.outs, Y.args, Y.brs] at *; subst h0 h1 h2 h3 h4 h5 h6; rfl
theorem Dc.ext' {x y : Dc} (h0 : x.nm = y.nm) (h1 : x.t = y.t) (h2 : x.ck = y.ck) : x = y := by cases x; cases y; simp only at *; subst h0 h1 h2; rfl
theorem En.ext' {x y : En} (h0 : x.nm = y.nm) (h1 : x.tags = y.tags) : x = y := by cases x; cases y; simp only at *; subst h0 h1; rfl
theorem Cl.ext' {x y : Cl} (h0 : x.nm = y.nm) (h1 : x.inn = y.inn) (h2 : x.out = y.out) (h3 : x.loc = y.loc) (h4 : x.mems = y.mems) (h5 : x.ins = y.ins) (h6 : x.step = y.step) : x = y := by cases x; cases y; simp only at *; subst h0 h1 h2 h3 h4 h5 h6; rfl
theorem Oc.ext' {x y : Oc} (h0 : x.en = y.en) (h1 : x.cl = y.cl) : x = y := by cases x; cases y; simp only at *; subst h0 h1; rfl

theorem kf93 (r : Nat) : Ob.keep 93 r = Ob.k93 r := by kernel_rfl
attribute [local simp] kf93 Ob.k93
theorem kf92 (r : Nat) : Ob.keep 92 r = Ob.k92 r := by kernel_rfl
attribute [local simp] kf92 Ob.k92
theorem kf94 (r : Nat) : Ob.keep 94 r = Ob.k94 r := by kernel_rfl
attribute [local simp] kf94 Ob.k94
theorem kf90 (r : Nat) : Ob.keep 90 r = Ob.k90 r := by kernel_rfl
attribute [local simp] kf90 Ob.k90
theorem kf48 (r : Nat) : Ob.keep 48 r = Ob.k48 r := by kernel_rfl
theorem kf91 (r : Nat) : Ob.keep 91 r = Ob.k91 r := by kernel_rfl
attribute [local simp] kf48 Ob.k48 kf91 Ob.k91
theorem kf87 (r : Nat) : Ob.keep 87 r = Ob.k87 r := by kernel_rfl
attribute [local simp] kf87 Ob.k87
theorem kf88 (r : Nat) : Ob.keep 88 r = Ob.k88 r := by kernel_rfl
theorem kf45 (r : Nat) : Ob.keep 45 r = Ob.k45 r := by kernel_rfl
attribute [local simp] kf88 Ob.k88 kf45 Ob.k45
theorem kf40 (r : Nat) : Ob.keep 40 r = Ob.k40 r := by kernel_rfl
attribute [local simp] kf40 Ob.k40
theorem kf43 (r : Nat) : Ob.keep 43 r = Ob.k43 r := by kernel_rfl
attribute [local simp] kf43 Ob.k43
theorem kf41 (r : Nat) : Ob.keep 41 r = Ob.k41 r := by kernel_rfl
theorem kf44 (r : Nat) : Ob.keep 44 r = Ob.k44 r := by kernel_rfl
theorem kf16 (r : Nat) : Ob.keep 16 r = Ob.k16 r := by kernel_rfl
attribute [local simp] kf41 Ob.k41 kf44 Ob.k44 kf16 Ob.k16
end Go.Ac
