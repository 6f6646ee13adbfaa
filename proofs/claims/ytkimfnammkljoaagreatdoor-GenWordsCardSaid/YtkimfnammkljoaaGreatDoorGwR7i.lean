/- Rounds of a loop over the instants, by the machine. No conditions. -/
import Derived.Test.YtkimfnammkljoaaGreatDoorHeHM
set_option linter.unusedVariables false
set_option linter.unusedSimpArgs false
namespace Go.Ac.Gw
open Go Go.Ac Go.Proofs
variable [GwR]
theorem r7_104 : R7 104 := fun _ _ _ _ => by kernel_rfl
theorem r7_105 : R7 105 := fun _ _ _ _ => by kernel_rfl
theorem r7_106 : R7 106 := fun _ _ _ _ => by kernel_rfl
theorem r7_107 : R7 107 := fun _ _ _ _ => by kernel_rfl
theorem r7_108 : R7 108 := fun _ _ _ _ => by kernel_rfl
theorem r7_109 : R7 109 := fun _ _ _ _ => by kernel_rfl
theorem r7_110 : R7 110 := fun _ _ _ _ => by kernel_rfl
theorem r7_111 : R7 111 := fun _ _ _ _ => by kernel_rfl
theorem r7_112 : R7 112 := fun _ _ _ _ => by kernel_rfl
theorem r7_113 : R7 113 := fun _ _ _ _ => by kernel_rfl
theorem r7_114 : R7 114 := fun _ _ _ _ => by kernel_rfl
theorem r7_115 : R7 115 := fun _ _ _ _ => by kernel_rfl
theorem r7_116 : R7 116 := fun _ _ _ _ => by kernel_rfl
end Go.Ac.Gw
