/- Operations and their fields. -/
import Derived.Test.YtofhhkkncaoneaaDoorAcBM
import Derived.Test.YtofhhkkncaoneaaDoorAcDM
import Derived.Test.YtofhhkkncaoneaaDoorAcGM
import Derived.Test.YtofhhkkncaoneaaDoorAcJM
import Derived.Test.YtofhhkkncaoneaaDoorAcMM
import Derived.Test.YtofhhkkncaoneaaDoorAcSM
import Derived.Test.YtofhhkkncaoneaaDoorAcXM
import Derived.Test.YtofhhkkncaoneaaDoorAcUcM
import Derived.Test.YtofhhkkncaoneaaDoorAcThM
import Derived.Test.YtofhhkkncaoneaaDoorCpBM
import Derived.Test.YtofhhkkncaoneaaDoorCpD
import Derived.Test.YtofhhkkncaoneaaDoorCpIM
import Derived.Calls
import Derived.Orders
import Derived.Laws.World
import Derived.Laws.Sem
import Derived.Laws.Cells
import Derived.Laws.Append
import GoSem.ClaimData
import Derived.Laws.Tables
import Derived.Laws.Slices
import Derived.Laws.Strings
import Derived.Laws.Small
import Derived.KernelRfl
import Derived.Test.YtofhhkkncaoneaaDoorChecked
import Derived.Lib.RuneCount
set_option linter.unusedVariables false
set_option linter.unusedSimpArgs false
set_option maxRecDepth 4000
set_option linter.unusedSimpArgs false
set_option linter.unusedVariables false
namespace Go.Ac
open Go.Proofs

def IsO (op : Int) : Prop := op = 1 ∨ op = 2 ∨ op = 3 ∨ op = 4 ∨ op = 5 ∨ op = 6 ∨ op = 7 ∨ op = 8 ∨ op = 9 ∨ op = 10
/-- The kinds of an operation's fields; how many operands its operator takes; its name. -/
def ksO (op : Int) : List Int := match op with
  | 1 => [1, 3, 0, 0] | 2 => [1, 1, 0, 0] | 3 => [1, 2, 0, 0] | 4 => [2, 1, 0, 0] | 5 => [1, 1, 5, 0] | 6 => [1, 1, 1, 5] | 7 => [0, 4, 0, 0] | 8 => [1, 4, 0, 0] | 9 => [6, 7, 8, 9] | _ => [6, 7, 0, 0]
def cnO (op : Int) : Int := match op with | 5 => 1 | 6 => 2 | _ => 0
def nmO (op : Int) : List UInt8 := match op with
  | 1 => [108, 111, 97, 100] | 2 => [109, 111, 118, 101] | 3 => [114, 101, 97, 100] | 4 => [119, 114, 105, 116, 101] | 5 => [117, 110, 97, 114, 121] | 6 => [97, 112, 112, 108, 121] | 7 => [106, 117, 109, 112] | 8 => [122, 101, 114, 111] | 9 => [99, 97, 108, 108] | _ => [114, 101, 115, 101, 116]
def rowO (op : Int) : V := .agg (.d (.str (nmO op)) :: ((ksO op).map dI ++ [dI (cnO op)]))
theorem known_den {op : Int} (h : IsO op) : den Tryd.prog Cp.cfg 61 [dI op] = some (.tuple [rowO op, dB true]) := by
  rcases h with rfl | rfl | rfl | rfl | rfl | rfl | rfl | rfl | rfl | rfl <;> exact den_k 100 (fun k => by kernel_rfl) rfl
theorem unknown_den {op : Int} (h : ¬ IsO op) : den Tryd.prog Cp.cfg 61 [dI op] = some (.tuple [.agg [.d (.str []), dI 0, dI 0, dI 0, dI 0, dI 0], dB false]) := by
  refine den_wp Tryd.func61 rfl (by kernel_rfl) rfl rfl ?_
  by_cases h0 : op < 1
  · refine wkc (And.intro @dI.eq_1 @h0) ?_
    show retQ _ _ _ _ _
    exact ⟨.inr rfl, _, _, rfl, rfl⟩
  · have h1 : op > 10 := by unfold IsO at h; omega
    refine wkc (And.intro @dI.eq_1 (And.intro @h0 @h1)) ?_
    show retQ _ _ _ _ _
    exact ⟨.inr rfl, _, _, rfl, rfl⟩
theorem fields_den (i : I) : den Tryd.prog Cp.cfg 62 [aI i] = some (.agg [dI i.a, dI i.b, dI i.c, dI i.d]) := by
  refine den_wp Tryd.func62 rfl (by kernel_rfl) rfl rfl ?_
  refine wkc (And.intro @aI.eq_1 @I.cells.eq_1) ?_
  show retQ _ _ _ _ _
  exact ⟨.inr rfl, _, _, rfl, rfl⟩
/-- How many operands an operator takes; 0: it is none. -/
def opn (op : Int) : Int := if op = 1 ∨ op = 2 then 1 else if 3 ≤ op ∧ op ≤ 16 then 2 else 0
theorem opn_den (op : Int) : den Tryd.prog Cp.cfg 63 [dI op] = some (dI (opn op)) := by
  refine den_wp Tryd.func63 rfl (by kernel_rfl) rfl rfl ?_
  by_cases h0 : op = 1
  · subst h0
    refine wkc (@dI.eq_1) ?_
    show retQ _ _ _ _ _
    exact ⟨.inr rfl, _, _, rfl, rfl⟩
  · by_cases h1 : op = 2
    · subst h1
      refine wkc (@dI.eq_1) ?_
      show retQ _ _ _ _ _
      exact ⟨.inr rfl, _, _, rfl, rfl⟩
    · by_cases h2 : op ≥ 3
      · by_cases h3 : op ≤ 16
        · have h2' : (op ≥ 3) = True := by simp [h2]
          have h2'' : (3 ≤ op) = True := by simp; omega
          have h3' : (op ≤ 16) = True := by simp [h3]
          refine wkc (And.intro @dI.eq_1 (And.intro @h0 (And.intro @h1 (And.intro @h2' (And.intro @h2'' (And.intro @h3' @int_beq)))))) ?_
          show retQ _ _ _ _ _
          exact ⟨.inr rfl, _, _, rfl, by simp [opn, h0, h1, h2'', h3']; rfl⟩
        · have h2'' : (3 ≤ op) = True := by simp; omega
          have h3' : (op ≤ 16) = False := by simp [h3]
          refine wkc (And.intro @dI.eq_1 (And.intro @h0 (And.intro @h1 (And.intro @h2'' (And.intro @h3' @int_beq))))) ?_
          show retQ _ _ _ _ _
          exact ⟨.inr rfl, _, _, rfl, by simp [opn, h0, h1, h2'', h3']; rfl⟩
      · have h2'' : (3 ≤ op) = False := by simp; omega
        refine wkc (And.intro @dI.eq_1 (And.intro @h0 (And.intro @h1 (And.intro @h2'' @int_beq)))) ?_
        show retQ _ _ _ _ _
        exact ⟨.inr rfl, _, _, rfl, by simp [opn, h0, h1, h2'']; rfl⟩
def wthn (at_ n most : Int) : Bool := decide (0 ≤ at_) && decide (at_ ≤ most) && decide (n ≤ most - at_)
theorem wthn_den (a n most : Int) (hn : 0 ≤ n) (hm : most ≤ 9223372036854775807) : den Tryd.prog Cp.cfg 64 [dI a, dI n, dI most] = some (dB (wthn a n most)) := by
  refine den_wp Tryd.func64 rfl (by kernel_rfl) rfl rfl ?_
  by_cases h0 : 0 ≤ a
  · by_cases h1 : a ≤ most
    · have h0' : (0 ≤ a) = True := by simp [h0]
      have h1' : (a ≤ most) = True := by simp [h1]
      have hw : IntKind.i64.wrap (most - a) = most - a := by rw [w_id'] <;> omega
      refine wkc (And.intro @dI.eq_1 (And.intro @h0' (And.intro @h1' @hw))) ?_
      show retQ _ _ _ _ _
      exact ⟨.inr rfl, _, _, rfl, by simp [wthn, h0, h1]; rfl⟩
    · have h0' : (0 ≤ a) = True := by simp [h0]
      have h1' : (a ≤ most) = False := by simp [h1]
      refine wkc (And.intro @dI.eq_1 (And.intro @h0' @h1')) ?_
      show retQ _ _ _ _ _
      exact ⟨.inr rfl, _, _, rfl, by simp [wthn, h0, h1]; rfl⟩
  · have h0' : (0 ≤ a) = False := by simp [h0]
    refine wkc (And.intro @dI.eq_1 @h0') ?_
    show retQ _ _ _ _ _
    exact ⟨.inr rfl, _, _, rfl, by simp [wthn, h0]; rfl⟩
/-- A type that the image knows. -/
def typOK (en : List Int) (t : Int) : Bool := decide (t = 1) || decide (t = 2) || (decide (3 ≤ t) && decide (t - 3 < en.length))
set_option maxHeartbeats 1000000 in
theorem typ_den (im : Im) (t : Int) (ht : t ≤ 9223372036854775807) : den Tryd.prog Cp.cfg 47 [aM im, dI t] = some (dB (typOK im.enums t)) := by
  refine den_wp Tryd.func47 rfl (by kernel_rfl) rfl rfl ?_
  by_cases h1 : t = 1
  · subst h1
    refine wkc (And.intro @dI.eq_1 (And.intro @aM.eq_1 @Im.cells.eq_1)) ?_
    show retQ _ _ _ _ _
    exact ⟨.inr rfl, _, _, rfl, rfl⟩
  by_cases h2 : t = 2
  · subst h2
    refine wkc (And.intro @dI.eq_1 (And.intro @aM.eq_1 @Im.cells.eq_1)) ?_
    show retQ _ _ _ _ _
    exact ⟨.inr rfl, _, _, rfl, rfl⟩
  by_cases h3 : 3 ≤ t
  · have h3' : (3 ≤ t) = True := by simp [h3]
    have hw : IntKind.i64.wrap (t - 3) = t - 3 := by rw [w_id'] <;> omega
    refine wkc (And.intro @dI.eq_1 (And.intro @aM.eq_1 (And.intro @Im.cells.eq_1 (And.intro @h1 (And.intro @h2 (And.intro @h3' (And.intro @hw @int_beq))))))) ?_
    show retQ _ _ _ _ _
    exact ⟨.inr rfl, _, _, rfl, by simp [typOK, h1, h2, h3]; rfl⟩
  · have h3' : (3 ≤ t) = False := by simp [h3]
    refine wkc (And.intro @dI.eq_1 (And.intro @aM.eq_1 (And.intro @Im.cells.eq_1 (And.intro @h1 (And.intro @h2 (And.intro @h3' @int_beq)))))) ?_
    show retQ _ _ _ _ _
    exact ⟨.inr rfl, _, _, rfl, by simp [typOK, h1, h2, h3]; rfl⟩
end Go.Ac
