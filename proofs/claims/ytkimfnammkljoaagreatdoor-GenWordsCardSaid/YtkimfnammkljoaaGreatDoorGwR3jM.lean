/- Rounds of a loop over the instants, by the machine. No conditions. -/
import Derived.Test.YtkimfnammkljoaaGreatDoorHeHM
set_option linter.unusedVariables false
set_option linter.unusedSimpArgs false
section
namespace Go.Ac.Gw
open Go Go.Ac Go.Proofs
variable [GwR]
theorem r3_78 : R3 78 := fun _ _ => by kernel_rfl
theorem r3_79 : R3 79 := fun _ _ => by kernel_rfl
theorem r3_80 : R3 80 := fun _ _ => by kernel_rfl
theorem r3_81 : R3 81 := fun _ _ => by kernel_rfl
theorem r3_82 : R3 82 := fun _ _ => by kernel_rfl
theorem r3_83 : R3 83 := fun _ _ => by kernel_rfl
theorem r3_84 : R3 84 := fun _ _ => by kernel_rfl
theorem r3_85 : R3 85 := fun _ _ => by kernel_rfl
theorem r3_86 : R3 86 := fun _ _ => by kernel_rfl
theorem r3_87 : R3 87 := fun _ _ => by kernel_rfl
theorem r3_88 : R3 88 := fun _ _ => by kernel_rfl
theorem r3_89 : R3 89 := fun _ _ => by kernel_rfl
theorem r3_90 : R3 90 := fun _ _ => by kernel_rfl
end Go.Ac.Gw
end

section
namespace Go.Ac.Gw
open Go Go.Ac Go.Proofs
variable [GwR]
theorem r3_91 : R3 91 := fun _ _ => by kernel_rfl
theorem r3_92 : R3 92 := fun _ _ => by kernel_rfl
theorem r3_93 : R3 93 := fun _ _ => by kernel_rfl
theorem r3_94 : R3 94 := fun _ _ => by kernel_rfl
theorem r3_95 : R3 95 := fun _ _ => by kernel_rfl
theorem r3_96 : R3 96 := fun _ _ => by kernel_rfl
theorem r3_97 : R3 97 := fun _ _ => by kernel_rfl
theorem r3_98 : R3 98 := fun _ _ => by kernel_rfl
theorem r3_99 : R3 99 := fun _ _ => by kernel_rfl
theorem r3_100 : R3 100 := fun _ _ => by kernel_rfl
theorem r3_101 : R3 101 := fun _ _ => by kernel_rfl
theorem r3_102 : R3 102 := fun _ _ => by kernel_rfl
theorem r3_103 : R3 103 := fun _ _ => by kernel_rfl
end Go.Ac.Gw
end

section
namespace Go.Ac.Gw
open Go Go.Ac Go.Proofs
variable [GwR]
theorem r3_104 : R3 104 := fun _ _ => by kernel_rfl
theorem r3_105 : R3 105 := fun _ _ => by kernel_rfl
theorem r3_106 : R3 106 := fun _ _ => by kernel_rfl
theorem r3_107 : R3 107 := fun _ _ => by kernel_rfl
theorem r3_108 : R3 108 := fun _ _ => by kernel_rfl
theorem r3_109 : R3 109 := fun _ _ => by kernel_rfl
theorem r3_110 : R3 110 := fun _ _ => by kernel_rfl
theorem r3_111 : R3 111 := fun _ _ => by kernel_rfl
theorem r3_112 : R3 112 := fun _ _ => by kernel_rfl
theorem r3_113 : R3 113 := fun _ _ => by kernel_rfl
theorem r3_114 : R3 114 := fun _ _ => by kernel_rfl
theorem r3_115 : R3 115 := fun _ _ => by kernel_rfl
theorem r3_116 : R3 116 := fun _ _ => by kernel_rfl
end Go.Ac.Gw
end

section
namespace Go.Ac.Gw
open Go Go.Ac Go.Proofs
variable [GwR]
theorem r3_117 : R3 117 := fun _ _ => by kernel_rfl
theorem r3_118 : R3 118 := fun _ _ => by kernel_rfl
theorem r3_119 : R3 119 := fun _ _ => by kernel_rfl
theorem r3_120 : R3 120 := fun _ _ => by kernel_rfl
theorem r3_121 : R3 121 := fun _ _ => by kernel_rfl
theorem r3_122 : R3 122 := fun _ _ => by kernel_rfl
theorem r3_123 : R3 123 := fun _ _ => by kernel_rfl
theorem r3_124 : R3 124 := fun _ _ => by kernel_rfl
theorem r3_125 : R3 125 := fun _ _ => by kernel_rfl
theorem r3_126 : R3 126 := fun _ _ => by kernel_rfl
theorem r3_127 : R3 127 := fun _ _ => by kernel_rfl
theorem r3_128 : R3 128 := fun _ _ => by kernel_rfl
theorem r3_129 : R3 129 := fun _ _ => by kernel_rfl
end Go.Ac.Gw
end
