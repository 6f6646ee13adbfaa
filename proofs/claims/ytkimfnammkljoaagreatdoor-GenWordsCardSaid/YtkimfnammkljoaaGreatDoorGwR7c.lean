/- Rounds of a loop over the instants, by the machine. No conditions. -/
import Derived.Test.YtkimfnammkljoaaGreatDoorHeHM
set_option linter.unusedVariables false
set_option linter.unusedSimpArgs false
namespace Go.Ac.Gw
open Go Go.Ac Go.Proofs
variable [GwR]
theorem r7_26 : R7 26 := fun _ _ _ _ => by kernel_rfl
theorem r7_27 : R7 27 := fun _ _ _ _ => by kernel_rfl
theorem r7_28 : R7 28 := fun _ _ _ _ => by kernel_rfl
theorem r7_29 : R7 29 := fun _ _ _ _ => by kernel_rfl
theorem r7_30 : R7 30 := fun _ _ _ _ => by kernel_rfl
theorem r7_31 : R7 31 := fun _ _ _ _ => by kernel_rfl
theorem r7_32 : R7 32 := fun _ _ _ _ => by kernel_rfl
theorem r7_33 : R7 33 := fun _ _ _ _ => by kernel_rfl
theorem r7_34 : R7 34 := fun _ _ _ _ => by kernel_rfl
theorem r7_35 : R7 35 := fun _ _ _ _ => by kernel_rfl
theorem r7_36 : R7 36 := fun _ _ _ _ => by kernel_rfl
theorem r7_37 : R7 37 := fun _ _ _ _ => by kernel_rfl
theorem r7_38 : R7 38 := fun _ _ _ _ => by kernel_rfl
end Go.Ac.Gw
