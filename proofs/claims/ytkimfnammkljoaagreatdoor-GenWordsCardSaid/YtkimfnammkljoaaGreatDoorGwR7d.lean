/- Rounds of a loop over the instants, by the machine. No conditions. -/
import Derived.Test.YtkimfnammkljoaaGreatDoorHeHM
set_option linter.unusedVariables false
set_option linter.unusedSimpArgs false
namespace Go.Ac.Gw
open Go Go.Ac Go.Proofs
variable [GwR]
theorem r7_39 : R7 39 := fun _ _ _ _ => by kernel_rfl
theorem r7_40 : R7 40 := fun _ _ _ _ => by kernel_rfl
theorem r7_41 : R7 41 := fun _ _ _ _ => by kernel_rfl
theorem r7_42 : R7 42 := fun _ _ _ _ => by kernel_rfl
theorem r7_43 : R7 43 := fun _ _ _ _ => by kernel_rfl
theorem r7_44 : R7 44 := fun _ _ _ _ => by kernel_rfl
theorem r7_45 : R7 45 := fun _ _ _ _ => by kernel_rfl
theorem r7_46 : R7 46 := fun _ _ _ _ => by kernel_rfl
theorem r7_47 : R7 47 := fun _ _ _ _ => by kernel_rfl
theorem r7_48 : R7 48 := fun _ _ _ _ => by kernel_rfl
theorem r7_49 : R7 49 := fun _ _ _ _ => by kernel_rfl
theorem r7_50 : R7 50 := fun _ _ _ _ => by kernel_rfl
theorem r7_51 : R7 51 := fun _ _ _ _ => by kernel_rfl
end Go.Ac.Gw
