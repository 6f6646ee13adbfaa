/- All rounds of a loop over the instants. No conditions. -/
import Derived.Test.YtkimfnammkljoaaGreatDoorGwR7a
import Derived.Test.YtkimfnammkljoaaGreatDoorGwR7b
import Derived.Test.YtkimfnammkljoaaGreatDoorGwR7c
import Derived.Test.YtkimfnammkljoaaGreatDoorGwR7d
import Derived.Test.YtkimfnammkljoaaGreatDoorGwR7e
import Derived.Test.YtkimfnammkljoaaGreatDoorGwR7f
import Derived.Test.YtkimfnammkljoaaGreatDoorGwR7g
import Derived.Test.YtkimfnammkljoaaGreatDoorGwR7h
import Derived.Test.YtkimfnammkljoaaGreatDoorGwR7i
import Derived.Test.YtkimfnammkljoaaGreatDoorGwR7j
set_option linter.unusedVariables false
set_option linter.unusedSimpArgs false
namespace Go.Ac.Gw
open Go Go.Ac Go.Proofs
variable [GwR]
theorem u7_13 : ∀ t, t < 13 → R7 t := upS (upS (upS (upS (upS (upS (upS (upS (upS (upS (upS (upS (upS up0 r7_0) r7_1) r7_2) r7_3) r7_4) r7_5) r7_6) r7_7) r7_8) r7_9) r7_10) r7_11) r7_12
theorem u7_26 : ∀ t, t < 26 → R7 t := upS (upS (upS (upS (upS (upS (upS (upS (upS (upS (upS (upS (upS u7_13 r7_13) r7_14) r7_15) r7_16) r7_17) r7_18) r7_19) r7_20) r7_21) r7_22) r7_23) r7_24) r7_25
theorem u7_39 : ∀ t, t < 39 → R7 t := upS (upS (upS (upS (upS (upS (upS (upS (upS (upS (upS (upS (upS u7_26 r7_26) r7_27) r7_28) r7_29) r7_30) r7_31) r7_32) r7_33) r7_34) r7_35) r7_36) r7_37) r7_38
theorem u7_52 : ∀ t, t < 52 → R7 t := upS (upS (upS (upS (upS (upS (upS (upS (upS (upS (upS (upS (upS u7_39 r7_39) r7_40) r7_41) r7_42) r7_43) r7_44) r7_45) r7_46) r7_47) r7_48) r7_49) r7_50) r7_51
theorem u7_65 : ∀ t, t < 65 → R7 t := upS (upS (upS (upS (upS (upS (upS (upS (upS (upS (upS (upS (upS u7_52 r7_52) r7_53) r7_54) r7_55) r7_56) r7_57) r7_58) r7_59) r7_60) r7_61) r7_62) r7_63) r7_64
theorem u7_78 : ∀ t, t < 78 → R7 t := upS (upS (upS (upS (upS (upS (upS (upS (upS (upS (upS (upS (upS u7_65 r7_65) r7_66) r7_67) r7_68) r7_69) r7_70) r7_71) r7_72) r7_73) r7_74) r7_75) r7_76) r7_77
theorem u7_91 : ∀ t, t < 91 → R7 t := upS (upS (upS (upS (upS (upS (upS (upS (upS (upS (upS (upS (upS u7_78 r7_78) r7_79) r7_80) r7_81) r7_82) r7_83) r7_84) r7_85) r7_86) r7_87) r7_88) r7_89) r7_90
theorem u7_104 : ∀ t, t < 104 → R7 t := upS (upS (upS (upS (upS (upS (upS (upS (upS (upS (upS (upS (upS u7_91 r7_91) r7_92) r7_93) r7_94) r7_95) r7_96) r7_97) r7_98) r7_99) r7_100) r7_101) r7_102) r7_103
theorem u7_117 : ∀ t, t < 117 → R7 t := upS (upS (upS (upS (upS (upS (upS (upS (upS (upS (upS (upS (upS u7_104 r7_104) r7_105) r7_106) r7_107) r7_108) r7_109) r7_110) r7_111) r7_112) r7_113) r7_114) r7_115) r7_116
theorem u7_130 : ∀ t, t < 130 → R7 t := upS (upS (upS (upS (upS (upS (upS (upS (upS (upS (upS (upS (upS u7_117 r7_117) r7_118) r7_119) r7_120) r7_121) r7_122) r7_123) r7_124) r7_125) r7_126) r7_127) r7_128) r7_129
end Go.Ac.Gw
