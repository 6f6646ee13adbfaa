/- A closed run: entries of the table. No conditions. -/
import Derived.Test.YtkimfnammkljoaaGreatDoorHeHM
set_option linter.unusedVariables false
set_option linter.unusedSimpArgs false
section
namespace Go.Ac.Gw
open Go Go.Ac Go.Proofs
variable [GwR]
theorem e0 : E0.ok Tryz.prog cfg2 := ent_ok [] trivial 1000000 (by kernel_rfl)
theorem e1 : E1.ok Tryz.prog cfg2 := ent_ok [E0] ⟨e0, trivial⟩ 1000000 (by kernel_rfl)
theorem e2 : E2.ok Tryz.prog cfg2 := ent_ok [] trivial 1000000 (by kernel_rfl)
theorem e3 : E3.ok Tryz.prog cfg2 := ent_ok [] trivial 1000000 (by kernel_rfl)
theorem e4 : E4.ok Tryz.prog cfg2 := ent_ok [E3] ⟨e3, trivial⟩ 1000000 (by kernel_rfl)
end Go.Ac.Gw
end

section
namespace Go.Ac.Gw
open Go Go.Ac Go.Proofs
variable [GwR]
theorem e5 : E5.ok Tryz.prog cfg2 := ent_ok [E4] ⟨e4, trivial⟩ 1000000 (by kernel_rfl)
theorem e6 : E6.ok Tryz.prog cfg2 := ent_ok [E3,E5] ⟨e3, e5, trivial⟩ 1000000 (by kernel_rfl)
theorem e7 : E7.ok Tryz.prog cfg2 := ent_ok [E5] ⟨e5, trivial⟩ 1000000 (by kernel_rfl)
theorem e8 : E8.ok Tryz.prog cfg2 := ent_ok [E4] ⟨e4, trivial⟩ 1000000 (by kernel_rfl)
end Go.Ac.Gw
end

section
namespace Go.Ac.Gw
open Go Go.Ac Go.Proofs
variable [GwR]
theorem e9 : E9.ok Tryz.prog cfg2 := ent_ok [E0,E2,E5,E6,E7,E8] ⟨e0, e2, e5, e6, e7, e8, trivial⟩ 1000000 (by kernel_rfl)
theorem e10 : E10.ok Tryz.prog cfg2 := ent_ok [E5,E6,E7,E8] ⟨e5, e6, e7, e8, trivial⟩ 1000000 (by kernel_rfl)
theorem e11 : E11.ok Tryz.prog cfg2 := ent_ok [] trivial 1000000 (by kernel_rfl)
end Go.Ac.Gw
end
