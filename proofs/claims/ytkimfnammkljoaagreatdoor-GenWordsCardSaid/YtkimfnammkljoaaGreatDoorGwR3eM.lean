/- Rounds of a loop over the instants, by the machine. No conditions. -/
import Derived.Test.YtkimfnammkljoaaGreatDoorHeHM
set_option linter.unusedVariables false
set_option linter.unusedSimpArgs false
section
namespace Go.Ac.Gw
open Go Go.Ac Go.Proofs
variable [GwR]
theorem r3_13 : R3 13 := fun _ _ => by kernel_rfl
theorem r3_14 : R3 14 := fun _ _ => by kernel_rfl
theorem r3_15 : R3 15 := fun _ _ => by kernel_rfl
theorem r3_16 : R3 16 := fun _ _ => by kernel_rfl
theorem r3_17 : R3 17 := fun _ _ => by kernel_rfl
theorem r3_18 : R3 18 := fun _ _ => by kernel_rfl
theorem r3_19 : R3 19 := fun _ _ => by kernel_rfl
theorem r3_20 : R3 20 := fun _ _ => by kernel_rfl
theorem r3_21 : R3 21 := fun _ _ => by kernel_rfl
theorem r3_22 : R3 22 := fun _ _ => by kernel_rfl
theorem r3_23 : R3 23 := fun _ _ => by kernel_rfl
theorem r3_24 : R3 24 := fun _ _ => by kernel_rfl
theorem r3_25 : R3 25 := fun _ _ => by kernel_rfl
end Go.Ac.Gw
end

section
namespace Go.Ac.Gw
open Go Go.Ac Go.Proofs
variable [GwR]
theorem r3_26 : R3 26 := fun _ _ => by kernel_rfl
theorem r3_27 : R3 27 := fun _ _ => by kernel_rfl
theorem r3_28 : R3 28 := fun _ _ => by kernel_rfl
theorem r3_29 : R3 29 := fun _ _ => by kernel_rfl
theorem r3_30 : R3 30 := fun _ _ => by kernel_rfl
theorem r3_31 : R3 31 := fun _ _ => by kernel_rfl
theorem r3_32 : R3 32 := fun _ _ => by kernel_rfl
theorem r3_33 : R3 33 := fun _ _ => by kernel_rfl
theorem r3_34 : R3 34 := fun _ _ => by kernel_rfl
theorem r3_35 : R3 35 := fun _ _ => by kernel_rfl
theorem r3_36 : R3 36 := fun _ _ => by kernel_rfl
theorem r3_37 : R3 37 := fun _ _ => by kernel_rfl
theorem r3_38 : R3 38 := fun _ _ => by kernel_rfl
end Go.Ac.Gw
end

section
namespace Go.Ac.Gw
open Go Go.Ac Go.Proofs
variable [GwR]
theorem r3_39 : R3 39 := fun _ _ => by kernel_rfl
theorem r3_40 : R3 40 := fun _ _ => by kernel_rfl
theorem r3_41 : R3 41 := fun _ _ => by kernel_rfl
theorem r3_42 : R3 42 := fun _ _ => by kernel_rfl
theorem r3_43 : R3 43 := fun _ _ => by kernel_rfl
theorem r3_44 : R3 44 := fun _ _ => by kernel_rfl
theorem r3_45 : R3 45 := fun _ _ => by kernel_rfl
theorem r3_46 : R3 46 := fun _ _ => by kernel_rfl
theorem r3_47 : R3 47 := fun _ _ => by kernel_rfl
theorem r3_48 : R3 48 := fun _ _ => by kernel_rfl
theorem r3_49 : R3 49 := fun _ _ => by kernel_rfl
theorem r3_50 : R3 50 := fun _ _ => by kernel_rfl
theorem r3_51 : R3 51 := fun _ _ => by kernel_rfl
end Go.Ac.Gw
end

section
namespace Go.Ac.Gw
open Go Go.Ac Go.Proofs
variable [GwR]
theorem r3_52 : R3 52 := fun _ _ => by kernel_rfl
theorem r3_53 : R3 53 := fun _ _ => by kernel_rfl
theorem r3_54 : R3 54 := fun _ _ => by kernel_rfl
theorem r3_55 : R3 55 := fun _ _ => by kernel_rfl
theorem r3_56 : R3 56 := fun _ _ => by kernel_rfl
theorem r3_57 : R3 57 := fun _ _ => by kernel_rfl
theorem r3_58 : R3 58 := fun _ _ => by kernel_rfl
theorem r3_59 : R3 59 := fun _ _ => by kernel_rfl
theorem r3_60 : R3 60 := fun _ _ => by kernel_rfl
theorem r3_61 : R3 61 := fun _ _ => by kernel_rfl
theorem r3_62 : R3 62 := fun _ _ => by kernel_rfl
theorem r3_63 : R3 63 := fun _ _ => by kernel_rfl
theorem r3_64 : R3 64 := fun _ _ => by kernel_rfl
end Go.Ac.Gw
end
