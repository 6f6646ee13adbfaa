/- All rounds of a loop over the instants. No conditions. -/
import Derived.Test.YtkimfnammkljoaaGreatDoorGwR3a
import Derived.Test.YtkimfnammkljoaaGreatDoorGwR3eM
import Derived.Test.YtkimfnammkljoaaGreatDoorGwR3f
import Derived.Test.YtkimfnammkljoaaGreatDoorGwR3jM
set_option linter.unusedVariables false
set_option linter.unusedSimpArgs false
namespace Go.Ac.Gw
open Go Go.Ac Go.Proofs
variable [GwR]
theorem u3_13 : ∀ t, t < 13 → R3 t := upS (upS (upS (upS (upS (upS (upS (upS (upS (upS (upS (upS (upS up0 r3_0) r3_1) r3_2) r3_3) r3_4) r3_5) r3_6) r3_7) r3_8) r3_9) r3_10) r3_11) r3_12
theorem u3_26 : ∀ t, t < 26 → R3 t := upS (upS (upS (upS (upS (upS (upS (upS (upS (upS (upS (upS (upS u3_13 r3_13) r3_14) r3_15) r3_16) r3_17) r3_18) r3_19) r3_20) r3_21) r3_22) r3_23) r3_24) r3_25
theorem u3_39 : ∀ t, t < 39 → R3 t := upS (upS (upS (upS (upS (upS (upS (upS (upS (upS (upS (upS (upS u3_26 r3_26) r3_27) r3_28) r3_29) r3_30) r3_31) r3_32) r3_33) r3_34) r3_35) r3_36) r3_37) r3_38
theorem u3_52 : ∀ t, t < 52 → R3 t := upS (upS (upS (upS (upS (upS (upS (upS (upS (upS (upS (upS (upS u3_39 r3_39) r3_40) r3_41) r3_42) r3_43) r3_44) r3_45) r3_46) r3_47) r3_48) r3_49) r3_50) r3_51
theorem u3_65 : ∀ t, t < 65 → R3 t := upS (upS (upS (upS (upS (upS (upS (upS (upS (upS (upS (upS (upS u3_52 r3_52) r3_53) r3_54) r3_55) r3_56) r3_57) r3_58) r3_59) r3_60) r3_61) r3_62) r3_63) r3_64
theorem u3_78 : ∀ t, t < 78 → R3 t := upS (upS (upS (upS (upS (upS (upS (upS (upS (upS (upS (upS (upS u3_65 r3_65) r3_66) r3_67) r3_68) r3_69) r3_70) r3_71) r3_72) r3_73) r3_74) r3_75) r3_76) r3_77
theorem u3_91 : ∀ t, t < 91 → R3 t := upS (upS (upS (upS (upS (upS (upS (upS (upS (upS (upS (upS (upS u3_78 r3_78) r3_79) r3_80) r3_81) r3_82) r3_83) r3_84) r3_85) r3_86) r3_87) r3_88) r3_89) r3_90
theorem u3_104 : ∀ t, t < 104 → R3 t := upS (upS (upS (upS (upS (upS (upS (upS (upS (upS (upS (upS (upS u3_91 r3_91) r3_92) r3_93) r3_94) r3_95) r3_96) r3_97) r3_98) r3_99) r3_100) r3_101) r3_102) r3_103
theorem u3_117 : ∀ t, t < 117 → R3 t := upS (upS (upS (upS (upS (upS (upS (upS (upS (upS (upS (upS (upS u3_104 r3_104) r3_105) r3_106) r3_107) r3_108) r3_109) r3_110) r3_111) r3_112) r3_113) r3_114) r3_115) r3_116
theorem u3_130 : ∀ t, t < 130 → R3 t := upS (upS (upS (upS (upS (upS (upS (upS (upS (upS (upS (upS (upS u3_117 r3_117) r3_118) r3_119) r3_120) r3_121) r3_122) r3_123) r3_124) r3_125) r3_126) r3_127) r3_128) r3_129
end Go.Ac.Gw
