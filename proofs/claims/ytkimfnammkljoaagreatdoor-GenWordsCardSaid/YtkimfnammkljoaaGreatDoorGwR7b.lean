/- Rounds of a loop over the instants, by the machine. No conditions. -/
import Derived.Test.YtkimfnammkljoaaGreatDoorHeHM
set_option linter.unusedVariables false
set_option linter.unusedSimpArgs false
namespace Go.Ac.Gw
open Go Go.Ac Go.Proofs
variable [GwR]
theorem r7_13 : R7 13 := fun _ _ _ _ => by kernel_rfl
theorem r7_14 : R7 14 := fun _ _ _ _ => by kernel_rfl
theorem r7_15 : R7 15 := fun _ _ _ _ => by kernel_rfl
theorem r7_16 : R7 16 := fun _ _ _ _ => by kernel_rfl
theorem r7_17 : R7 17 := fun _ _ _ _ => by kernel_rfl
theorem r7_18 : R7 18 := fun _ _ _ _ => by kernel_rfl
theorem r7_19 : R7 19 := fun _ _ _ _ => by kernel_rfl
theorem r7_20 : R7 20 := fun _ _ _ _ => by kernel_rfl
theorem r7_21 : R7 21 := fun _ _ _ _ => by kernel_rfl
theorem r7_22 : R7 22 := fun _ _ _ _ => by kernel_rfl
theorem r7_23 : R7 23 := fun _ _ _ _ => by kernel_rfl
theorem r7_24 : R7 24 := fun _ _ _ _ => by kernel_rfl
theorem r7_25 : R7 25 := fun _ _ _ _ => by kernel_rfl
end Go.Ac.Gw
