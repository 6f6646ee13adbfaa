/- The machines that are nil. -/
import Derived.Test.YtofhhkkncaoneaaDoorAcBM
import Derived.Test.YtofhhkkncaoneaaDoorAcDM
import Derived.Test.YtofhhkkncaoneaaDoorAcGM
import Derived.Test.YtofhhkkncaoneaaDoorAcJM
import Derived.Test.YtofhhkkncaoneaaDoorAcLM
import Derived.Test.YtofhhkkncaoneaaDoorAcOM
import Derived.Test.YtofhhkkncaoneaaDoorAcXM
import Derived.Test.YtofhhkkncaoneaaDoorAcUcM
import Derived.Test.YtofhhkkncaoneaaDoorAcThM
import Derived.Test.YtofhhkkncaoneaaDoorCpBM
import Derived.Test.YtofhhkkncaoneaaDoorCpD
import Derived.Calls
import Derived.Orders
import Derived.Laws.World
import Derived.Laws.Sem
import Derived.Laws.Cells
import Derived.Laws.Append
import GoSem.ClaimData
import Derived.Laws.Tables
import Derived.Laws.Slices
import Derived.Laws.Strings
import Derived.Laws.Small
import Derived.KernelRfl
import Derived.Test.YtofhhkkncaoneaaDoorChecked
set_option linter.unusedVariables false
set_option linter.unusedSimpArgs false
set_option maxRecDepth 100000
namespace Go.Ac
open Go.Proofs
theorem nstep_den (row : D) : den Tryd.prog Cp.cfg 11 [.con (.pointer none), .d row] = some (.tuple [.d (.slice []), dI 1]) := den_k 100 (fun k => by kernel_rfl) rfl
theorem rnstep_den (row : D) : den Tryd.prog Cp.cfg 12 [.con (.pointer none), .d row] = some (.tuple [.d (.slice []), dI 1]) := den_k 100 (fun k => by kernel_rfl) rfl
theorem nstep2_den : den Tryd.prog Cp.cfg 11 [.con (.pointer none), .full []] = some (.tuple [.d (.slice []), dI 1]) := den_k 100 (fun k => by kernel_rfl) rfl
theorem nmem_den : den Tryd.prog Cp.cfg 14 [.con (.pointer none)] = some (.d (.slice [])) := den_k 100 (fun k => by kernel_rfl) rfl
theorem rnmem_den : den Tryd.prog Cp.cfg 15 [.con (.pointer none)] = some (.d (.slice [])) := den_k 100 (fun k => by kernel_rfl) rfl
theorem ncount_den : den Tryd.prog Cp.cfg 16 [.con (.pointer none)] = some (dI 0) := den_k 100 (fun k => by kernel_rfl) rfl
theorem rncount_den : den Tryd.prog Cp.cfg 17 [.con (.pointer none)] = some (dI 0) := den_k 100 (fun k => by kernel_rfl) rfl
theorem nreset_den : den Tryd.prog Cp.cfg 18 [.con (.pointer none)] = some (.tuple []) := den_k 100 (fun k => by kernel_rfl) rfl
theorem nload_den : den Tryd.prog Cp.cfg 19 [.con (.pointer none), .full []] = some (dI 1) := den_k 100 (fun k => by kernel_rfl) rfl
end Go.Ac
