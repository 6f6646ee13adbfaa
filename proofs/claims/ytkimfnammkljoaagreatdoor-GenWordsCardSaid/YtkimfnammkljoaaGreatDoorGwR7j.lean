/- Rounds of a loop over the instants, by the machine. No conditions. -/
import Derived.Test.YtkimfnammkljoaaGreatDoorHeHM
set_option linter.unusedVariables false
set_option linter.unusedSimpArgs false
namespace Go.Ac.Gw
open Go Go.Ac Go.Proofs
variable [GwR]
theorem r7_117 : R7 117 := fun _ _ _ _ => by kernel_rfl
theorem r7_118 : R7 118 := fun _ _ _ _ => by kernel_rfl
theorem r7_119 : R7 119 := fun _ _ _ _ => by kernel_rfl
theorem r7_120 : R7 120 := fun _ _ _ _ => by kernel_rfl
theorem r7_121 : R7 121 := fun _ _ _ _ => by kernel_rfl
theorem r7_122 : R7 122 := fun _ _ _ _ => by kernel_rfl
theorem r7_123 : R7 123 := fun _ _ _ _ => by kernel_rfl
theorem r7_124 : R7 124 := fun _ _ _ _ => by kernel_rfl
theorem r7_125 : R7 125 := fun _ _ _ _ => by kernel_rfl
theorem r7_126 : R7 126 := fun _ _ _ _ => by kernel_rfl
theorem r7_127 : R7 127 := fun _ _ _ _ => by kernel_rfl
theorem r7_128 : R7 128 := fun _ _ _ _ => by kernel_rfl
theorem r7_129 : R7 129 := fun _ _ _ _ => by kernel_rfl
end Go.Ac.Gw
