/- The law of a text that is no word, by data. Condition: the text has at most 80 bytes. -/
import Derived.Test.YtkimfnammkljoaaGreatDoorHeHM
set_option linter.unusedVariables false
set_option linter.unusedSimpArgs false
set_option maxRecDepth 8000
set_option linter.unusedSectionVars false
namespace Go.Ac.Gw
open Go Go.Ac Go.Proofs
variable [GwR]
theorem longL (n : Int) (hs : 80 < GwR.s.length) : den Tryz.prog cfgL 3 [.d (.sym 0), .d (.int .u8 n)] = some (.d (.bool true)) := by
 refine den_wp Tryz.func3 rfl (by kernel_rfl) rfl rfl ?_
 refine WP.seq (WP.run noT_ok 2000 (by kernel_rfl) ?_)
 refine WP.seq (WP.seq (WP.run noT_ok 2000 (by kernel_rfl) ?_))
 refine WP.cond (decide ((GwR.s.length : Int) > 80)) (by kernel_rfl) (fun hb => ?_) (fun hb => ?_)
 ·exact WP.finS noT_ok 100000 (by kernel_rfl)
 ·exfalso
  have := of_decide_eq_false hb
  omega
theorem bad3 (n : Int) (hs : GwR.s.length ≤ 80) : den Tryz.prog (cfgF 3) 3 [.d (.sym 0), .d (.int .u8 n)] = some (.d (.bool true)) := by
 refine den_wp Tryz.func3 rfl (by kernel_rfl) rfl rfl ?_
 refine WP.seq (WP.run noT_ok 2000 (by kernel_rfl) ?_)
 refine WP.seq (WP.seq (WP.run noT_ok 2000 (by kernel_rfl) ?_))
 refine WP.cond (decide ((GwR.s.length : Int) > 80)) (by kernel_rfl) (fun hb => ?_) (fun hb => ?_)
 ·exfalso
  have := of_decide_eq_true hb
  omega
 refine WP.skip ?_
 exact WP.fin noT_ok 100000 (by kernel_rfl)
theorem bad5 (n : Int) (hs : GwR.s.length ≤ 80) : den Tryz.prog (cfgF 5) 3 [.d (.sym 0), .d (.int .u8 n)] = some (.d (.bool true)) := by
 refine den_wp Tryz.func3 rfl (by kernel_rfl) rfl rfl ?_
 refine WP.seq (WP.run noT_ok 2000 (by kernel_rfl) ?_)
 refine WP.seq (WP.seq (WP.run noT_ok 2000 (by kernel_rfl) ?_))
 refine WP.cond (decide ((GwR.s.length : Int) > 80)) (by kernel_rfl) (fun hb => ?_) (fun hb => ?_)
 ·exfalso
  have := of_decide_eq_true hb
  omega
 refine WP.skip ?_
 exact WP.fin noT_ok 100000 (by kernel_rfl)
end Go.Ac.Gw
