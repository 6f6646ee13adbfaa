/- The reference's check, over what it says of one routine. -/
import Derived.Test.YtofhhkkncaoneaaDoorAcBM
import Derived.Test.YtofhhkkncaoneaaDoorAcDM
import Derived.Test.YtofhhkkncaoneaaDoorAcGM
import Derived.Test.YtofhhkkncaoneaaDoorAcJM
import Derived.Test.YtofhhkkncaoneaaDoorAcMM
import Derived.Test.YtofhhkkncaoneaaDoorAcSM
import Derived.Test.YtofhhkkncaoneaaDoorAcXM
import Derived.Test.YtofhhkkncaoneaaDoorAcUcM
import Derived.Test.YtofhhkkncaoneaaDoorAcThM
import Derived.Test.YtofhhkkncaoneaaDoorCpBM
import Derived.Test.YtofhhkkncaoneaaDoorCpD
import Derived.Test.YtofhhkkncaoneaaDoorCpF
import Derived.Test.YtofhhkkncaoneaaDoorCpIM
import Derived.Test.YtofhhkkncaoneaaDoorCrTM
import Derived.Test.YtofhhkkncaoneaaDoorCpQM
import Derived.Calls
import Derived.Orders
import Derived.Laws.World
import Derived.Laws.Sem
import Derived.Laws.Cells
import Derived.Laws.Append
import GoSem.ClaimData
import Derived.Laws.Tables
import Derived.Laws.Slices
import Derived.Laws.Strings
import Derived.Laws.Small
import Derived.KernelRfl
import Derived.Test.YtofhhkkncaoneaaDoorChecked
import Derived.Lib.RuneCount
set_option linter.unusedVariables false
set_option linter.unusedSimpArgs false
set_option maxRecDepth 4000
set_option linter.unusedSimpArgs false
set_option linter.unusedVariables false
namespace Go.Ac
open Go.Proofs

set_option maxHeartbeats 2000000 in
theorem rcheck_of (im : Im) (hs : im.sz ≤ MB) (hone : ∀ (k : Nat) (r : Rt), im.rs[k]? = some r → den Tryd.prog Cp.cfg 40 [aM im, dI k] = some (dI (oneE im k r))) : den Tryd.prog Cp.cfg 25 [aM im] = some (dI (chkE im)) := by
  have hrl := im.len_rs
  have hel : im.enums.length ≤ im.sz := by unfold Im.sz; omega
  unfold MB at hs
  refine den_wp Tryd.func25 rfl (by kernel_rfl) rfl rfl ?_
  unfold chkE
  by_cases q1 : im.enums.length > 24
  · rw [if_pos q1]
    have q1' : (24 < im.enums.length) = True := by simp; omega
    have q1'' : ((24 : Int) < im.enums.length) = True := by simp; omega
    refine wkc (And.intro @dI.eq_1 (And.intro @aM.eq_1 (And.intro @Im.cells.eq_1 (And.intro @q1' @q1'')))) ?_
    show retQ _ _ _ _ _
    exact ⟨.inr rfl, _, _, rfl, rfl⟩
  rw [if_neg q1]
  have q1' : (24 < im.enums.length) = False := by simp; omega
  have q1'' : ((24 : Int) < im.enums.length) = False := by simp; omega
  by_cases q2 : im.rs.length > 96
  · rw [if_pos q2]
    have q2' : (96 < im.rs.length) = True := by simp; omega
    have q2'' : ((96 : Int) < im.rs.length) = True := by simp; omega
    refine wkc (And.intro @dI.eq_1 (And.intro @aM.eq_1 (And.intro @Im.cells.eq_1 (And.intro @q1' (And.intro @q1'' (And.intro @q2' @q2'')))))) ?_
    show retQ _ _ _ _ _
    exact ⟨.inr rfl, _, _, rfl, rfl⟩
  rw [if_neg q2]
  have q2' : (96 < im.rs.length) = False := by simp; omega
  have q2'' : ((96 : Int) < im.rs.length) = False := by simp; omega
  refine wkc (And.intro @dI.eq_1 (And.intro @aM.eq_1 (And.intro @Im.cells.eq_1 (And.intro @q1' (And.intro @q1'' (And.intro @q2' @q2'')))))) ?_
  apply WP.loop' (I := fun D s => ∃ j : Nat, j + D = im.enums.length ∧ (im.enums.take j).all (fun v => !outE v) = true ∧ SE [(1, .ptr 0 0 0), (3, dI j)] [(0, ⟨0, false, im.cells.map .d⟩)] 1 s) (d := im.enums.length)
  · exact ⟨0, by simp, by simp, SE.mk (by simp [dI]) (by simp [Im.cells])⟩
  rintro D _ ⟨j, hj, hno, cc, rfl⟩
  refine wk (And.intro @dI.eq_1 @Im.cells.eq_1) ?_
  show WP _ _ _ _ _ _
  refine WP.cond _ rfl (fun hb => ?_) (fun hb => ?_)
  · simp at hb
    have hb' : j < im.enums.length := hb
    obtain ⟨v, hv, hvm, hix⟩ := at_lt hb'
    have hv' := encI_at hv
    have hw := w_succ hb' (by omega)
    have hts := all_take_succ (p := fun v => !outE v) hv
    by_cases h0 : v < 1
    · have hx : im.enums.any outE = true := List.any_eq_true.2 ⟨v, hvm, by simp [outE, h0]⟩
      rw [if_pos hx]
      refine wkc (And.intro @dI.eq_1 (And.intro @Im.cells.eq_1 (And.intro @hix (And.intro @hv' @h0)))) ?_
      show retQ _ _ _ _ _
      exact ⟨.inr rfl, _, _, rfl, rfl⟩
    · by_cases h1 : v > 16
      · have hx : im.enums.any outE = true := List.any_eq_true.2 ⟨v, hvm, by simp [outE, h1]⟩
        rw [if_pos hx]
        refine wkc (And.intro @dI.eq_1 (And.intro @Im.cells.eq_1 (And.intro @hix (And.intro @hv' (And.intro @h0 @h1))))) ?_
        show retQ _ _ _ _ _
        exact ⟨.inr rfl, _, _, rfl, rfl⟩
      · refine wkc (And.intro @dI.eq_1 (And.intro @Im.cells.eq_1 (And.intro @hix (And.intro @hv' (And.intro @h0 @h1))))) ?_
        refine loop_next (by simp [hw]; exact Is.rfl) ?_
        exact ⟨D - 1, by omega, j + 1, by omega, by rw [hts, hno]; simp [outE, h0, h1], SE.mk (by simp [dI, hw]) (by simp [Im.cells])⟩
  · simp at hb
    have hil : j = im.enums.length := by omega
    subst hil
    have hx : ¬ im.enums.any outE = true := by
      rw [List.take_length] at hno
      intro h
      obtain ⟨v, hv, hp⟩ := List.any_eq_true.1 h
      have := List.all_eq_true.1 hno v hv
      rw [hp] at this; cases this
    rw [if_neg hx]
    by_cases q4 : im.rs.length = 0
    · rw [if_pos q4]
      have q4' : im.rs = [] := List.eq_nil_of_length_eq_zero q4
      refine wkc (And.intro @dI.eq_1 (And.intro @Im.cells.eq_1 (And.intro @q4 @q4'))) ?_
      show retQ _ _ _ _ _
      exact ⟨.inr rfl, _, _, rfl, rfl⟩
    rw [if_neg q4]
    have q4' : ¬ im.rs = [] := fun h => q4 (by rw [h]; rfl)
    have q4'' : ((im.rs.length : Int) = 0) = False := by simp; omega
    refine wkc (And.intro @dI.eq_1 (And.intro @Im.cells.eq_1 (And.intro @q4 (And.intro @q4' (And.intro @q4'' @int_beq))))) ?_
    apply WP.loop' (I := fun D s => ∃ j : Nat, j + D = im.rs.length ∧ rsE im 0 im.rs = rsE im j (im.rs.drop j) ∧ SE [(1, .ptr 0 0 0), (4, dI j)] [(0, ⟨0, false, im.cells.map .d⟩)] 1 s) (d := im.rs.length)
    · exact ⟨0, by simp, rfl, SE.mk (by simp [dI]) (by simp [Im.cells])⟩
    rintro D _ ⟨j, hj, hE, cc, rfl⟩
    refine wk (And.intro @dI.eq_1 @Im.cells.eq_1) ?_
    show WP _ _ _ _ _ _
    refine WP.cond _ rfl (fun hb => ?_) (fun hb => ?_)
    · simp at hb
      have hb' : j < im.rs.length := hb
      obtain ⟨r, hr, hm, hix⟩ := at_lt hb'
      have hw := w_succ hb' (by omega)
      have hst := rsE_step (im := im) hr
      rw [← hE] at hst
      have h1 := hone j r hr
      simp only [aM, Im.cells, List.map_cons, List.map_nil, dI] at h1
      by_cases h0 : oneE im j r = 0
      · rw [h0] at h1
        rw [if_pos h0] at hst
        refine wkc (And.intro @dI.eq_1 (And.intro @Im.cells.eq_1 @h1)) ?_
        refine loop_next (by simp [hw]; exact Is.rfl) ?_
        exact ⟨D - 1, by omega, j + 1, by omega, hst, SE.mk (by simp [dI, hw]) (by simp [Im.cells])⟩
      · rw [if_neg h0] at hst
        rw [hst]
        refine wkc (And.intro @dI.eq_1 (And.intro @Im.cells.eq_1 (And.intro @h1 (And.intro @h0 @int_bne)))) ?_
        show retQ _ _ _ _ _
        exact ⟨.inr rfl, _, _, rfl, rfl⟩
    · simp at hb
      have hE0 : rsE im 0 im.rs = 0 := by rw [hE, List.drop_of_length_le hb]; rfl
      rw [hE0]
      refine wk True.intro ?_
      show retQ _ _ _ _ _
      exact ⟨.inr rfl, _, _, rfl, rfl⟩
end Go.Ac
