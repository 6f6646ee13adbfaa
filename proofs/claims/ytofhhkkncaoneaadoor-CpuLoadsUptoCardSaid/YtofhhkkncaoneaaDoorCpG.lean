/- The reference's operators. -/
import Derived.Test.YtofhhkkncaoneaaDoorAcBM
import Derived.Test.YtofhhkkncaoneaaDoorAcDM
import Derived.Test.YtofhhkkncaoneaaDoorAcGM
import Derived.Test.YtofhhkkncaoneaaDoorAcJM
import Derived.Test.YtofhhkkncaoneaaDoorAcSM
import Derived.Test.YtofhhkkncaoneaaDoorAcXM
import Derived.Test.YtofhhkkncaoneaaDoorAcUcM
import Derived.Test.YtofhhkkncaoneaaDoorAcThM
import Derived.Test.YtofhhkkncaoneaaDoorCpBM
import Derived.Test.YtofhhkkncaoneaaDoorCpD
import Derived.Test.YtofhhkkncaoneaaDoorCpE
import Derived.Test.YtofhhkkncaoneaaDoorCpF
import Derived.Calls
import Derived.Orders
import Derived.Laws.World
import Derived.Laws.Sem
import Derived.Laws.Cells
import Derived.Laws.Append
import GoSem.ClaimData
import Derived.Laws.Tables
import Derived.Laws.Slices
import Derived.Laws.Strings
import Derived.Laws.Small
import Derived.KernelRfl
import Derived.Test.YtofhhkkncaoneaaDoorChecked
set_option linter.unusedVariables false
set_option linter.unusedSimpArgs false
set_option maxRecDepth 4000
set_option linter.unusedSimpArgs false
set_option linter.unusedVariables false
namespace Go.Ac
open Go.Proofs

theorem okA_bool {v : Int} (h : okA 1 v = true) : v = 0 ∨ v = 1 := by simpa [okA] using h

set_option maxHeartbeats 4000000 in
theorem rcompute_den (op a b : Int) (h : IsOp op) (h1 : op ≠ 1) (h2 : op ≠ 2) (ha : okA (opK op) a = true) (hb : okA (opK op) b = true) : den Tryd.prog Cp.cfg 75 [dI op, dI a, dI b] = some (dI (resI op a b)) := by
  have e2 := radd_den a b
  have e3 := rsub_den a b
  have e4 := rmul_den a b
  have e5 := rdiv_den a b
  have e6 := rmod_den a b
  have e7 := rone_den
  simp only [dI, dB] at e2 e3 e4 e5 e6 e7
  refine den_wp Tryd.func75 rfl (by kernel_rfl) rfl rfl ?_
  rcases h with rfl | rfl | rfl | rfl | rfl | rfl | rfl | rfl | rfl | rfl | rfl | rfl | rfl | rfl | rfl | rfl <;> first | exact absurd rfl h1 | exact absurd rfl h2 | skip
  case inr.inr.inl =>
    rcases okA_bool ha with rfl | rfl <;> rcases okA_bool hb with rfl | rfl
    all_goals
      refine wkc (And.intro @dI.eq_1 @e7) ?_
      show retQ _ _ _ _ _
      exact ⟨.inr rfl, _, _, rfl, rfl⟩
  case inr.inr.inr.inl =>
    rcases okA_bool ha with rfl | rfl <;> rcases okA_bool hb with rfl | rfl
    all_goals
      refine wkc (And.intro @dI.eq_1 @e7) ?_
      show retQ _ _ _ _ _
      exact ⟨.inr rfl, _, _, rfl, rfl⟩
  case inr.inr.inr.inr.inl =>
    rcases okA_bool ha with rfl | rfl <;> rcases okA_bool hb with rfl | rfl
    all_goals
      refine wkc (And.intro @dI.eq_1 @e7) ?_
      show retQ _ _ _ _ _
      exact ⟨.inr rfl, _, _, rfl, rfl⟩
  all_goals
    refine wkc (And.intro @dI.eq_1 (And.intro @e2 (And.intro @e3 (And.intro @e4 (And.intro @e5 (And.intro @e6 (And.intro @e7 @int_bne))))))) ?_
    show retQ _ _ _ _ _
    exact ⟨.inr rfl, _, _, rfl, by first | rfl | (simp [resI, opK, hldI]; rfl) | simp [resI, opK, hldI, dI]⟩

end Go.Ac
