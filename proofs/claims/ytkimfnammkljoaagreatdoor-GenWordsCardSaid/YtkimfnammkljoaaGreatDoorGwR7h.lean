/- Rounds of a loop over the instants, by the machine. No conditions. -/
import Derived.Test.YtkimfnammkljoaaGreatDoorHeHM
set_option linter.unusedVariables false
set_option linter.unusedSimpArgs false
namespace Go.Ac.Gw
open Go Go.Ac Go.Proofs
variable [GwR]
theorem r7_91 : R7 91 := fun _ _ _ _ => by kernel_rfl
theorem r7_92 : R7 92 := fun _ _ _ _ => by kernel_rfl
theorem r7_93 : R7 93 := fun _ _ _ _ => by kernel_rfl
theorem r7_94 : R7 94 := fun _ _ _ _ => by kernel_rfl
theorem r7_95 : R7 95 := fun _ _ _ _ => by kernel_rfl
theorem r7_96 : R7 96 := fun _ _ _ _ => by kernel_rfl
theorem r7_97 : R7 97 := fun _ _ _ _ => by kernel_rfl
theorem r7_98 : R7 98 := fun _ _ _ _ => by kernel_rfl
theorem r7_99 : R7 99 := fun _ _ _ _ => by kernel_rfl
theorem r7_100 : R7 100 := fun _ _ _ _ => by kernel_rfl
theorem r7_101 : R7 101 := fun _ _ _ _ => by kernel_rfl
theorem r7_102 : R7 102 := fun _ _ _ _ => by kernel_rfl
theorem r7_103 : R7 103 := fun _ _ _ _ => by kernel_rfl
end Go.Ac.Gw
