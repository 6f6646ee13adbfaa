/- Rounds of a loop over the instants, by the machine. No conditions. -/
import Derived.Test.YtkimfnammkljoaaGreatDoorHeHM
set_option linter.unusedVariables false
set_option linter.unusedSimpArgs false
namespace Go.Ac.Gw
open Go Go.Ac Go.Proofs
variable [GwR]
theorem r3_0 : R3 0 := fun _ _ => by kernel_rfl
theorem r3_1 : R3 1 := fun _ _ => by kernel_rfl
theorem r3_2 : R3 2 := fun _ _ => by kernel_rfl
theorem r3_3 : R3 3 := fun _ _ => by kernel_rfl
theorem r3_4 : R3 4 := fun _ _ => by kernel_rfl
theorem r3_5 : R3 5 := fun _ _ => by kernel_rfl
theorem r3_6 : R3 6 := fun _ _ => by kernel_rfl
theorem r3_7 : R3 7 := fun _ _ => by kernel_rfl
theorem r3_8 : R3 8 := fun _ _ => by kernel_rfl
theorem r3_9 : R3 9 := fun _ _ => by kernel_rfl
theorem r3_10 : R3 10 := fun _ _ => by kernel_rfl
theorem r3_11 : R3 11 := fun _ _ => by kernel_rfl
theorem r3_12 : R3 12 := fun _ _ => by kernel_rfl
end Go.Ac.Gw
