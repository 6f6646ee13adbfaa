/- Rounds of a loop over the instants, by the machine. No conditions. -/
import Derived.Test.YtkimfnammkljoaaGreatDoorHeHM
set_option linter.unusedVariables false
set_option linter.unusedSimpArgs false
namespace Go.Ac.Gw
open Go Go.Ac Go.Proofs
variable [GwR]
theorem r3_65 : R3 65 := fun _ _ => by kernel_rfl
theorem r3_66 : R3 66 := fun _ _ => by kernel_rfl
theorem r3_67 : R3 67 := fun _ _ => by kernel_rfl
theorem r3_68 : R3 68 := fun _ _ => by kernel_rfl
theorem r3_69 : R3 69 := fun _ _ => by kernel_rfl
theorem r3_70 : R3 70 := fun _ _ => by kernel_rfl
theorem r3_71 : R3 71 := fun _ _ => by kernel_rfl
theorem r3_72 : R3 72 := fun _ _ => by kernel_rfl
theorem r3_73 : R3 73 := fun _ _ => by kernel_rfl
theorem r3_74 : R3 74 := fun _ _ => by kernel_rfl
theorem r3_75 : R3 75 := fun _ _ => by kernel_rfl
theorem r3_76 : R3 76 := fun _ _ => by kernel_rfl
theorem r3_77 : R3 77 := fun _ _ => by kernel_rfl
end Go.Ac.Gw
