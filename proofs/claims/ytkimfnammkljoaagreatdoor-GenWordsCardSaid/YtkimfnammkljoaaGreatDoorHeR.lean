/- The closed facts of the row: the list of the functions that the law reaches is taken once for each. No conditions. -/
import Derived.Test.YtkimfnammkljoaaGreatDoorCards
import Derived.JoinedCond
import Derived.KernelRfl
set_option linter.unusedVariables false
set_option linter.unusedSimpArgs false
set_option maxRecDepth 100000
namespace Go.Proofs.YtkimfnammkljoaaGreatDoor.words
open Go
theorem inPlace3 : Tryz.pinned.checked.prog.inPlace 3 = Rows.genWordsRow.inPlace := by kernel_rfl
theorem unf3 : Tryz.pinned.checked.prog.unfollowed 3 = true := by kernel_rfl
theorem named3 : Tryz.pinned.checked.prog.varsNamed 3 = Rows.genWordsRow.named := by kernel_rfl
theorem rec3 : Tryz.pinned.checked.prog.recurses 3 = true := by
 unfold Program.recurses
 rw [unf3, Bool.true_or]
theorem facts : joinedFacts Tryz.pinned.checked.prog 3 Tryz.f3 (OpenSpec.ofChange Rows.genWordsSpec).bare Rows.genWordsRow = true := by
 unfold joinedFacts
 rw [inPlace3, unf3, named3, rec3]
 kernel_rfl
end Go.Proofs.YtkimfnammkljoaaGreatDoor.words
