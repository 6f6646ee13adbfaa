/- Equality of object code: the reference's. -/
import Derived.Test.YtkgekafdhehleaaGreatAcA
import Derived.Test.YtkgekafdhehleaaGreatAcB
import Derived.Test.YtkgekafdhehleaaGreatAcDM
import Derived.Test.YtkgekafdhehleaaGreatAcUcM
import Derived.Test.YtkgekafdhehleaaGreatObHn
import Derived.Test.YtkgekafdhehleaaGreatObCM
import Derived.Test.YtkgekafdhehleaaGreatObD
import Derived.Calls
import Derived.Orders
import Derived.Laws.World
import Derived.Laws.Sem
import Derived.Laws.Cells
import Derived.Laws.Append
import GoSem.ClaimData
import Derived.Laws.Tables
import Derived.Laws.Slices
import Derived.Laws.Strings
import Derived.Laws.Small
import Derived.KernelRfl
import Derived.Test.YtkgekafdhehleaaGreatChecked
set_option linter.unusedVariables false
set_option linter.unusedSimpArgs false
set_option maxRecDepth 4000
set_option linter.unusedSimpArgs false
set_option linter.unusedVariables false
namespace Go.Ac
open Go.Proofs
theorem On.ext' {x y : On} (h0 : x.nm = y.nm) (h1 : x.t = y.t) (h2 : x.tag = y.tag) : x = y := by cases x; cases y; simp only at *; subst h0 h1 h2; rfl
theorem Mm.ext' {x y : Mm} (h0 : x.nm = y.nm) (h1 : x.t = y.t) (h2 : x.ini = y.ini) : x = y := by cases x; cases y; simp only at *; subst h0 h1 h2; rfl
theorem Ii.ext' {x y : Ii} (h0 : x.nm = y.nm) (h1 : x.cl = y.cl) : x = y := by cases x; cases y; simp only at *; subst h0 h1; rfl

theorem kf95 (r : Nat) : Ob.keep 95 r = Ob.k95 r := by kernel_rfl
attribute [local simp] kf95 Ob.k95
theorem kf128 (r : Nat) : Ob.keep 128 r = Ob.k128 r := by kernel_rfl
attribute [local simp] kf128 Ob.k128
theorem kf125 (r : Nat) : Ob.keep 125 r = Ob.k125 r := by kernel_rfl
attribute [local simp] kf125 Ob.k125
theorem kf96 (r : Nat) : Ob.keep 96 r = Ob.k96 r := by kernel_rfl
attribute [local simp] kf96 Ob.k96
theorem kf126 (r : Nat) : Ob.keep 126 r = Ob.k126 r := by kernel_rfl
attribute [local simp] kf126 Ob.k126
theorem kf100 (r : Nat) : Ob.keep 100 r = Ob.k100 r := by kernel_rfl
attribute [local simp] kf100 Ob.k100
theorem kf50 (r : Nat) : Ob.keep 50 r = Ob.k50 r := by kernel_rfl
attribute [local simp] kf50 Ob.k50
/-- Enumerations as a program without nodes. -/
def pE (l : List En) : V := .agg [.d (.slice (encE l)), .d (.slice [])]
structure Wl where
  en : List En
theorem kf49 (r : Nat) : Ob.keep 49 r = Ob.k49 r := by kernel_rfl
attribute [local simp] kf49 Ob.k49
theorem kf17 (r : Nat) : Ob.keep 17 r = Ob.k17 r := by kernel_rfl
attribute [local simp] kf17 Ob.k17
end Go.Ac
