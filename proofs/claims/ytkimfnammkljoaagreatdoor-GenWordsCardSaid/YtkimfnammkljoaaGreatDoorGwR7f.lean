/- Rounds of a loop over the instants, by the machine. No conditions. -/
import Derived.Test.YtkimfnammkljoaaGreatDoorHeHM
set_option linter.unusedVariables false
set_option linter.unusedSimpArgs false
namespace Go.Ac.Gw
open Go Go.Ac Go.Proofs
variable [GwR]
theorem r7_65 : R7 65 := fun _ _ _ _ => by kernel_rfl
theorem r7_66 : R7 66 := fun _ _ _ _ => by kernel_rfl
theorem r7_67 : R7 67 := fun _ _ _ _ => by kernel_rfl
theorem r7_68 : R7 68 := fun _ _ _ _ => by kernel_rfl
theorem r7_69 : R7 69 := fun _ _ _ _ => by kernel_rfl
theorem r7_70 : R7 70 := fun _ _ _ _ => by kernel_rfl
theorem r7_71 : R7 71 := fun _ _ _ _ => by kernel_rfl
theorem r7_72 : R7 72 := fun _ _ _ _ => by kernel_rfl
theorem r7_73 : R7 73 := fun _ _ _ _ => by kernel_rfl
theorem r7_74 : R7 74 := fun _ _ _ _ => by kernel_rfl
theorem r7_75 : R7 75 := fun _ _ _ _ => by kernel_rfl
theorem r7_76 : R7 76 := fun _ _ _ _ => by kernel_rfl
theorem r7_77 : R7 77 := fun _ _ _ _ => by kernel_rfl
end Go.Ac.Gw
