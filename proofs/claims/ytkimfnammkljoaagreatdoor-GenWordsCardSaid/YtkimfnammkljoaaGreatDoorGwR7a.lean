/- Rounds of a loop over the instants, by the machine. No conditions. -/
import Derived.Test.YtkimfnammkljoaaGreatDoorHeHM
set_option linter.unusedVariables false
set_option linter.unusedSimpArgs false
namespace Go.Ac.Gw
open Go Go.Ac Go.Proofs
variable [GwR]
theorem r7_0 : R7 0 := fun _ _ _ _ => by kernel_rfl
theorem r7_1 : R7 1 := fun _ _ _ _ => by kernel_rfl
theorem r7_2 : R7 2 := fun _ _ _ _ => by kernel_rfl
theorem r7_3 : R7 3 := fun _ _ _ _ => by kernel_rfl
theorem r7_4 : R7 4 := fun _ _ _ _ => by kernel_rfl
theorem r7_5 : R7 5 := fun _ _ _ _ => by kernel_rfl
theorem r7_6 : R7 6 := fun _ _ _ _ => by kernel_rfl
theorem r7_7 : R7 7 := fun _ _ _ _ => by kernel_rfl
theorem r7_8 : R7 8 := fun _ _ _ _ => by kernel_rfl
theorem r7_9 : R7 9 := fun _ _ _ _ => by kernel_rfl
theorem r7_10 : R7 10 := fun _ _ _ _ => by kernel_rfl
theorem r7_11 : R7 11 := fun _ _ _ _ => by kernel_rfl
theorem r7_12 : R7 12 := fun _ _ _ _ => by kernel_rfl
end Go.Ac.Gw
