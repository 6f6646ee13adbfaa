/- The law's example; ObSames by data. -/
import Derived.Test.YtkgekafdhehleaaGreatObRM
set_option linter.unusedVariables false
set_option linter.unusedSimpArgs false
set_option maxRecDepth 4000
namespace Go.Ac
open Go.Proofs
theorem aLD:eJ Tryz.prog Ob.cfg 10 []=some (dB true):=aKa 600 (by kernel_rfl)
end Go.Ac
