/- Rounds of a loop over the instants, by the machine. No conditions. -/
import Derived.Test.YtkimfnammkljoaaGreatDoorHeHM
set_option linter.unusedVariables false
set_option linter.unusedSimpArgs false
namespace Go.Ac.Gw
open Go Go.Ac Go.Proofs
variable [GwR]
theorem r7_78 : R7 78 := fun _ _ _ _ => by kernel_rfl
theorem r7_79 : R7 79 := fun _ _ _ _ => by kernel_rfl
theorem r7_80 : R7 80 := fun _ _ _ _ => by kernel_rfl
theorem r7_81 : R7 81 := fun _ _ _ _ => by kernel_rfl
theorem r7_82 : R7 82 := fun _ _ _ _ => by kernel_rfl
theorem r7_83 : R7 83 := fun _ _ _ _ => by kernel_rfl
theorem r7_84 : R7 84 := fun _ _ _ _ => by kernel_rfl
theorem r7_85 : R7 85 := fun _ _ _ _ => by kernel_rfl
theorem r7_86 : R7 86 := fun _ _ _ _ => by kernel_rfl
theorem r7_87 : R7 87 := fun _ _ _ _ => by kernel_rfl
theorem r7_88 : R7 88 := fun _ _ _ _ => by kernel_rfl
theorem r7_89 : R7 89 := fun _ _ _ _ => by kernel_rfl
theorem r7_90 : R7 90 := fun _ _ _ _ => by kernel_rfl
end Go.Ac.Gw
