/- Rounds of a loop over the instants, by the machine. No conditions. -/
import Derived.Test.YtkimfnammkljoaaGreatDoorHeHM
set_option linter.unusedVariables false
set_option linter.unusedSimpArgs false
namespace Go.Ac.Gw
open Go Go.Ac Go.Proofs
variable [GwR]
theorem r7_52 : R7 52 := fun _ _ _ _ => by kernel_rfl
theorem r7_53 : R7 53 := fun _ _ _ _ => by kernel_rfl
theorem r7_54 : R7 54 := fun _ _ _ _ => by kernel_rfl
theorem r7_55 : R7 55 := fun _ _ _ _ => by kernel_rfl
theorem r7_56 : R7 56 := fun _ _ _ _ => by kernel_rfl
theorem r7_57 : R7 57 := fun _ _ _ _ => by kernel_rfl
theorem r7_58 : R7 58 := fun _ _ _ _ => by kernel_rfl
theorem r7_59 : R7 59 := fun _ _ _ _ => by kernel_rfl
theorem r7_60 : R7 60 := fun _ _ _ _ => by kernel_rfl
theorem r7_61 : R7 61 := fun _ _ _ _ => by kernel_rfl
theorem r7_62 : R7 62 := fun _ _ _ _ => by kernel_rfl
theorem r7_63 : R7 63 := fun _ _ _ _ => by kernel_rfl
theorem r7_64 : R7 64 := fun _ _ _ _ => by kernel_rfl
end Go.Ac.Gw
