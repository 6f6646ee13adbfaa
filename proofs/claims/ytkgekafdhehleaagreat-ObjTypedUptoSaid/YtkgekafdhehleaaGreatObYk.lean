/- ObjTyped: the outputs of a step are values of their types; for arguments of bulk at most 1048576. -/
import Derived.Test.YtkgekafdhehleaaGreatAcA
import Derived.Test.YtkgekafdhehleaaGreatAcB
import Derived.Test.YtkgekafdhehleaaGreatAcDM
import Derived.Test.YtkgekafdhehleaaGreatAcJM
import Derived.Test.YtkgekafdhehleaaGreatAcThM
import Derived.Test.YtkgekafdhehleaaGreatAcQvM
import Derived.Test.YtkgekafdhehleaaGreatObCM
import Derived.Test.YtkgekafdhehleaaGreatObD
import Derived.Test.YtkgekafdhehleaaGreatObE
import Derived.Test.YtkgekafdhehleaaGreatObKM
import Derived.Test.YtkgekafdhehleaaGreatObPcM
import Derived.Test.YtkgekafdhehleaaGreatObPd
import Derived.Test.YtkgekafdhehleaaGreatObPe
import Derived.Test.YtkgekafdhehleaaGreatObXaM
import Derived.Test.YtkgekafdhehleaaGreatObPhM
import Derived.Test.YtkgekafdhehleaaGreatObWxM
import Derived.Test.YtkgekafdhehleaaGreatObPnM
import Derived.Test.YtkgekafdhehleaaGreatObIxM
import Derived.Test.YtkgekafdhehleaaGreatObQaM
import Derived.Test.YtkgekafdhehleaaGreatAcMlM
import Derived.Test.YtkgekafdhehleaaGreatObXvM
import Derived.Test.YtkgekafdhehleaaGreatObYcM
import Derived.Test.YtkgekafdhehleaaGreatObYeM
import Derived.Test.YtkgekafdhehleaaGreatObKaM
import Derived.Test.YtkgekafdhehleaaGreatObH
import Derived.Test.YtkgekafdhehleaaGreatObYj
import Derived.Calls
import Derived.Orders
import Derived.Laws.World
import Derived.Laws.Sem
import Derived.Laws.Cells
import Derived.Laws.Append
import GoSem.ClaimData
import Derived.Laws.Tables
import Derived.Laws.Slices
import Derived.Laws.Strings
import Derived.Laws.Small
import Derived.Laws.IdiomRangeMap
import Derived.KernelRfl
import Derived.Test.YtkgekafdhehleaaGreatChecked
import Derived.Test.YtkgekafdhehleaaGreatRows
import Derived.Deep.Slices
import Derived.ChangeArms
import Derived.RowKit3
import Derived.ReadAgain
import Derived.ChangeStays
import Derived.WalkKit
import Derived.ProofKit
import Derived.OpenShut
import Derived.JoinedCond
import Derived.Below
set_option linter.unusedVariables false
set_option linter.unusedSimpArgs false
set_option maxRecDepth 4000
namespace Go.Proofs.YtkgekafdhehleaaGreat.typed
open Go.ChangeShapes Go.WideShapes Go.RowKit
set_option linter.unusedVariables false

theorem own : ownKnob Tryz.prog.godebug = none := by kernel_rfl

set_option maxRecDepth 100000 in
theorem lifted (os : Os) (started : os.Started) (H : Type) (enc : TypeId × Value → H) (F : Stop.Interp) :
    ReturnsInHanded {} Tryz.checked os 4 .any ((Rows.OpenSpec.upto Rows.objTypedSpec).pre6 enc Tryz.prog Tryz.f4 Rows.objTypedUptoRow.domain false) (((Rows.OpenSpec.upto Rows.objTypedSpec).at F).post enc Tryz.prog Tryz.f4 false true false false) := by
  refine returnsInHanded_of_cond (C := Tryz.checked) (s := Rows.OpenSpec.upto Rows.objTypedSpec) (k := Rows.uptoSmall) rfl own started (by kernel_rfl) Tryz.func4
    (OpenSpec.witness (enc := enc) (C := Tryz.checked) (s := Rows.OpenSpec.upto Rows.objTypedSpec) (k := Rows.uptoSmall) rfl false ⟨#[], #[.agg #[.slice none 0 0, .slice none 0 0], .slice none 0 0], []⟩ 8 (by kernel_rfl) (by kernel_rfl) (by kernel_rfl)
      (x := ([.agg [.nil, .nil], .nil], [], [])) (by kernel_rfl) rfl (by kernel_rfl)) ?_
  intro W base args ds gs before hval hW _ hk _
  exact Go.Ac.contractR (f := 4) (fn := Tryz.f4) (spec := Rows.objTypedSpec) rfl rfl rfl (fun _ _ _ => rfl) (fun x r hx hok h1 h2 => Go.Ac.typed_den x r hx hok h1 h2) H enc W base args ds gs before hval hW hk

theorem proved : Rows.ObjTypedUptoSaid :=
  OpenClaim.holds_of_cond 4 Tryz.f4 rfl rfl rfl rfl rfl rfl rfl ⟨rfl, rfl, rfl, rfl, rfl⟩ rfl rfl rfl rfl rfl (by kernel_rfl) Tryz.func4 (by kernel_rfl)
    (of_decide_eq_true (by kernel_rfl)) (by unfold Func.isWrapper; first | (rw [if_pos (by decide +kernel)]; kernel_rfl) | (rw [if_neg (by decide +kernel)]; exact ⟨rfl, rfl⟩))
    (fun os started H enc _ F => lifted os started H enc F)
#print axioms proved
end Go.Proofs.YtkgekafdhehleaaGreat.typed
