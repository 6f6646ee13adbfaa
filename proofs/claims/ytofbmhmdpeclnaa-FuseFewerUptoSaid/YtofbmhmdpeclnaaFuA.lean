/- The examples of the chapter hold: the abstract machine runs them. -/
import Derived.Test.YtofbmhmdpeclnaaFuB
set_option linter.unusedVariables false
set_option linter.unusedSimpArgs false
namespace Go.Ab
open Go.Proofs

noncomputable def awakeC : Nat := ((callF Try.prog Hn.cfg 2000 8 [] [] 0 0).map (·.c)).getD 0

set_option maxRecDepth 100000 in
theorem awake_run (k : Nat) : callF Try.prog Hn.cfg (k + 2000) 8 [] [] 0 0 = some ⟨.d (.bool true), [], 0, awakeC, []⟩ := by kernel_rfl

theorem awake_den : den Try.prog Hn.cfg 8 [] = some (.d (.bool true)) := by
  refine den_of (r := ⟨.d (.bool true), [], 0, awakeC, []⟩) ⟨2000, fun k hk => ?_⟩ rfl
  obtain ⟨j, rfl⟩ : ∃ j, k = j + 2000 := ⟨k - 2000, by omega⟩
  exact awake_run j

end Go.Ab
