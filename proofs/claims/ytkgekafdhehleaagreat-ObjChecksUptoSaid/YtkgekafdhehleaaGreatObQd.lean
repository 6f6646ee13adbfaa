/- ObjChecks: whether object code is right, or the error, is the chapter's; for arguments of bulk at most 1048576. -/
import Derived.Test.YtkgekafdhehleaaGreatAcA
import Derived.Test.YtkgekafdhehleaaGreatAcB
import Derived.Test.YtkgekafdhehleaaGreatAcDM
import Derived.Test.YtkgekafdhehleaaGreatAcJM
import Derived.Test.YtkgekafdhehleaaGreatAcUcM
import Derived.Test.YtkgekafdhehleaaGreatObHn
import Derived.Test.YtkgekafdhehleaaGreatObCM
import Derived.Test.YtkgekafdhehleaaGreatObD
import Derived.Test.YtkgekafdhehleaaGreatObE
import Derived.Test.YtkgekafdhehleaaGreatObRM
import Derived.Test.YtkgekafdhehleaaGreatObMM
import Derived.Test.YtkgekafdhehleaaGreatObOM
import Derived.Test.YtkgekafdhehleaaGreatObVM
import Derived.Test.YtkgekafdhehleaaGreatObMzM
import Derived.Test.YtkgekafdhehleaaGreatObPdM
import Derived.Test.YtkgekafdhehleaaGreatObPe
import Derived.Test.YtkgekafdhehleaaGreatObPgM
import Derived.Test.YtkgekafdhehleaaGreatObPjM
import Derived.Test.YtkgekafdhehleaaGreatObPlM
import Derived.Test.YtkgekafdhehleaaGreatObPoM
import Derived.Test.YtkgekafdhehleaaGreatObPqM
import Derived.Test.YtkgekafdhehleaaGreatObQbM
import Derived.Test.YtkgekafdhehleaaGreatObH
import Derived.Test.YtkgekafdhehleaaGreatObQcM
import Derived.Calls
import Derived.Orders
import Derived.Laws.World
import Derived.Laws.Sem
import Derived.Laws.Cells
import Derived.Laws.Append
import GoSem.ClaimData
import Derived.Laws.Tables
import Derived.Laws.Slices
import Derived.Laws.Strings
import Derived.Laws.Small
import Derived.KernelRfl
import Derived.Test.YtkgekafdhehleaaGreatChecked
import Derived.Test.YtkgekafdhehleaaGreatRows
import Derived.Deep.Slices
import Derived.ChangeArms
import Derived.RowKit3
import Derived.ReadAgain
import Derived.ChangeStays
import Derived.WalkKit
import Derived.ProofKit
import Derived.OpenShut
import Derived.JoinedCond
import Derived.Below
set_option linter.unusedVariables false
set_option linter.unusedSimpArgs false
set_option maxRecDepth 4000
namespace Go.Proofs.YtkgekafdhehleaaGreat.checks
open Go.ChangeShapes Go.WideShapes Go.RowKit
set_option linter.unusedVariables false

theorem own : ownKnob Tryz.prog.godebug = none := by kernel_rfl

set_option maxRecDepth 100000 in
theorem lifted (os : Os) (started : os.Started) (H : Type) (enc : TypeId × Value → H) (F : Stop.Interp) :
    ReturnsInHanded {} Tryz.checked os 3 .any ((Rows.OpenSpec.upto Rows.objChecksSpec).pre6 enc Tryz.prog Tryz.f3 Rows.objChecksUptoRow.domain false) (((Rows.OpenSpec.upto Rows.objChecksSpec).at F).post enc Tryz.prog Tryz.f3 false true false false) := by
  refine returnsInHanded_of_cond (C := Tryz.checked) (s := Rows.OpenSpec.upto Rows.objChecksSpec) (k := Rows.uptoSmall) rfl own started (by kernel_rfl) Tryz.func3
    (OpenSpec.witness (enc := enc) (C := Tryz.checked) (s := Rows.OpenSpec.upto Rows.objChecksSpec) (k := Rows.uptoSmall) rfl false ⟨#[], #[.agg #[.slice none 0 0, .slice none 0 0]], []⟩ 8 (by kernel_rfl) (by kernel_rfl) (by kernel_rfl)
      (x := ([.agg [.nil, .nil]], [], [])) (by kernel_rfl) rfl (by kernel_rfl)) ?_
  intro W base args ds gs before hval hW _ hk _
  exact Go.Ac.contract1 (f := 3) (fn := Tryz.f3) (spec := Rows.objChecksSpec) rfl rfl rfl (fun _ _ => rfl) (fun x hx hok => Go.Ac.checks_den x hx hok) H enc W base args ds gs before hval hW hk

theorem proved : Rows.ObjChecksUptoSaid :=
  OpenClaim.holds_of_cond 3 Tryz.f3 rfl rfl rfl rfl rfl rfl rfl ⟨rfl, rfl, rfl, rfl, rfl⟩ rfl rfl rfl rfl rfl (by kernel_rfl) Tryz.func3 (by kernel_rfl)
    (of_decide_eq_true (by kernel_rfl)) (by unfold Func.isWrapper; first | (rw [if_pos (by decide +kernel)]; kernel_rfl) | (rw [if_neg (by decide +kernel)]; exact ⟨rfl, rfl⟩))
    (fun os started H enc _ F => lifted os started H enc F)
#print axioms proved
end Go.Proofs.YtkgekafdhehleaaGreat.checks
