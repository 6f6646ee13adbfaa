/- The operators of the language, on either side. -/
import Derived.Test.YtofhhkkncaoneaaDoorAcBM
import Derived.Test.YtofhhkkncaoneaaDoorAcDM
import Derived.Test.YtofhhkkncaoneaaDoorAcGM
import Derived.Test.YtofhhkkncaoneaaDoorAcJM
import Derived.Test.YtofhhkkncaoneaaDoorAcSM
import Derived.Test.YtofhhkkncaoneaaDoorAcXM
import Derived.Test.YtofhhkkncaoneaaDoorAcUcM
import Derived.Test.YtofhhkkncaoneaaDoorAcThM
import Derived.Test.YtofhhkkncaoneaaDoorCpBM
import Derived.Test.YtofhhkkncaoneaaDoorCpD
import Derived.Calls
import Derived.Orders
import Derived.Laws.World
import Derived.Laws.Sem
import Derived.Laws.Cells
import Derived.Laws.Append
import GoSem.ClaimData
import Derived.Laws.Tables
import Derived.Laws.Slices
import Derived.Laws.Strings
import Derived.Laws.Small
import Derived.KernelRfl
import Derived.Test.YtofhhkkncaoneaaDoorChecked
set_option linter.unusedVariables false
set_option linter.unusedSimpArgs false
set_option maxRecDepth 4000
set_option linter.unusedSimpArgs false
set_option linter.unusedVariables false
namespace Go.Ac
open Go.Proofs

/-- An operator's number. -/
def IsOp (op : Int) : Prop := op = 1 ∨ op = 2 ∨ op = 3 ∨ op = 4 ∨ op = 5 ∨ op = 6 ∨ op = 7 ∨ op = 8 ∨ op = 9 ∨ op = 10 ∨ op = 11 ∨ op = 12 ∨ op = 13 ∨ op = 14 ∨ op = 15 ∨ op = 16
theorem isOp_of {op : Int} (h : 1 ≤ op) (h' : op ≤ 16) : IsOp op := by unfold IsOp; omega
/-- Its group: on truth, arithmetic, equality, order. -/
def opK (op : Int) : Int := if op = 1 ∨ op = 3 ∨ op = 4 ∨ op = 5 then 1 else if op = 2 ∨ op = 6 ∨ op = 7 ∨ op = 8 ∨ op = 9 ∨ op = 10 then 2 else if op = 11 ∨ op = 12 then 3 else 4
def ar (op : Int) : Nat := if op = 1 ∨ op = 2 then 1 else 2
theorem opK_cases (op : Int) : opK op = 1 ∨ opK op = 2 ∨ opK op = 3 ∨ opK op = 4 := by unfold opK; split <;> (try split) <;> (try split) <;> simp

theorem group_den {op : Int} (h : IsOp op) : den Tryd.prog Cp.cfg 77 [dI op] = some (.tuple [dI (opK op), dI (ar op)]) := by
  rcases h with rfl | rfl | rfl | rfl | rfl | rfl | rfl | rfl | rfl | rfl | rfl | rfl | rfl | rfl | rfl | rfl <;> exact den_k 100 (fun k => by kernel_rfl) rfl
theorem roperands_den {op : Int} (h : IsOp op) : den Tryd.prog Cp.cfg 71 [dI op] = some (dI (ar op)) := by
  rcases h with rfl | rfl | rfl | rfl | rfl | rfl | rfl | rfl | rfl | rfl | rfl | rfl | rfl | rfl | rfl | rfl <;> exact den_k 100 (fun k => by kernel_rfl) rfl
theorem rboolean_den {op : Int} (h : IsOp op) : den Tryd.prog Cp.cfg 72 [dI op] = some (dB (decide (opK op = 1))) := by
  rcases h with rfl | rfl | rfl | rfl | rfl | rfl | rfl | rfl | rfl | rfl | rfl | rfl | rfl | rfl | rfl | rfl <;> exact den_k 100 (fun k => by kernel_rfl) rfl
theorem requality_den {op : Int} (h : IsOp op) : den Tryd.prog Cp.cfg 73 [dI op] = some (dB (decide (opK op = 3))) := by
  rcases h with rfl | rfl | rfl | rfl | rfl | rfl | rfl | rfl | rfl | rfl | rfl | rfl | rfl | rfl | rfl | rfl <;> exact den_k 100 (fun k => by kernel_rfl) rfl

/-- An arithmetic operator's result. -/
def cmpI (op a b : Int) : Int :=
  if op = 2 then w16 (-(w16 a)) else if op = 6 then w16 (w16 a + w16 b) else if op = 7 then w16 (w16 a - w16 b) else if op = 8 then w16 (w16 a * w16 b) else if op = 9 then divI (w16 a) (w16 b) else modI (w16 a) (w16 b)
/-- Any other operator's. -/
def hldI (op a b : Int) : Bool :=
  if op = 1 then decide (a = 0) else if op = 3 then decide (a = 1) && decide (b = 1) else if op = 4 then decide (a = 1) || decide (b = 1) else if op = 11 then decide (a = b) else if op = 5 ∨ op = 12 then !decide (a = b)
  else if op = 13 then decide (a < b) else if op = 14 then decide (a ≤ b) else if op = 15 then decide (a > b) else decide (a ≥ b)
def resI (op a b : Int) : Int := if opK op = 2 then cmpI op a b else if hldI op a b then 1 else 0

set_option maxHeartbeats 4000000 in
theorem compute_den (op a b : Int) (h : opK op = 2) : den Tryd.prog Cp.cfg 78 [dI op, dI a, dI b] = some (dI (cmpI op a b)) := by
  have h1 := neg_den a
  have h2 := add_den a b
  have h3 := sub_den a b
  have h4 := mul_den a b
  have h5 := div_den a b
  have h6 := mod_den a b
  simp only [dI] at h1 h2 h3 h4 h5 h6
  have hop : op = 2 ∨ op = 6 ∨ op = 7 ∨ op = 8 ∨ op = 9 ∨ op = 10 := by
    unfold opK at h; split at h
    · cases h
    · split at h
      · assumption
      · split at h <;> cases h
  refine den_wp Tryd.func78 rfl (by kernel_rfl) rfl rfl ?_
  rcases hop with rfl | rfl | rfl | rfl | rfl | rfl
  all_goals
    refine wkc (And.intro @dI.eq_1 (And.intro @h1 (And.intro @h2 (And.intro @h3 (And.intro @h4 (And.intro @h5 @h6)))))) ?_
    show retQ _ _ _ _ _
    exact ⟨.inr rfl, _, _, rfl, rfl⟩

set_option maxHeartbeats 4000000 in
theorem holds_den (op a b : Int) (h : IsOp op) (h' : opK op ≠ 2) : den Tryd.prog Cp.cfg 80 [dI op, dI a, dI b] = some (dB (hldI op a b)) := by
  refine den_wp Tryd.func80 rfl (by kernel_rfl) rfl rfl ?_
  rcases h with rfl | rfl | rfl | rfl | rfl | rfl | rfl | rfl | rfl | rfl | rfl | rfl | rfl | rfl | rfl | rfl <;> first | exact absurd (by decide) h' | skip
  case inr.inr.inl =>
    by_cases ha : a = 1
    · subst ha
      refine wkc (@dI.eq_1) ?_
      show retQ _ _ _ _ _
      exact ⟨.inr rfl, _, _, rfl, by simp [hldI]; rfl⟩
    · have ha' : (a == 1) = false := by simp [ha]
      refine wkc (And.intro @dI.eq_1 @ha') ?_
      show retQ _ _ _ _ _
      exact ⟨.inr rfl, _, _, rfl, by simp [hldI, ha]; rfl⟩
  case inr.inr.inr.inl =>
    by_cases ha : a = 1
    · subst ha
      refine wkc (@dI.eq_1) ?_
      show retQ _ _ _ _ _
      exact ⟨.inr rfl, _, _, rfl, by simp [hldI]; rfl⟩
    · have ha' : (a == 1) = false := by simp [ha]
      refine wkc (And.intro @dI.eq_1 @ha') ?_
      show retQ _ _ _ _ _
      exact ⟨.inr rfl, _, _, rfl, by simp [hldI, ha]; rfl⟩
  all_goals
    refine wkc (@dI.eq_1) ?_
    show retQ _ _ _ _ _
    exact ⟨.inr rfl, _, _, rfl, by simp [hldI]; rfl⟩
end Go.Ac
