/- An operator applied, on either side. -/
import Derived.Test.YtofhhkkncaoneaaDoorAcBM
import Derived.Test.YtofhhkkncaoneaaDoorAcDM
import Derived.Test.YtofhhkkncaoneaaDoorAcGM
import Derived.Test.YtofhhkkncaoneaaDoorAcJM
import Derived.Test.YtofhhkkncaoneaaDoorAcSM
import Derived.Test.YtofhhkkncaoneaaDoorAcXM
import Derived.Test.YtofhhkkncaoneaaDoorAcUcM
import Derived.Test.YtofhhkkncaoneaaDoorAcThM
import Derived.Test.YtofhhkkncaoneaaDoorCpBM
import Derived.Test.YtofhhkkncaoneaaDoorCpD
import Derived.Test.YtofhhkkncaoneaaDoorCpE
import Derived.Calls
import Derived.Orders
import Derived.Laws.World
import Derived.Laws.Sem
import Derived.Laws.Cells
import Derived.Laws.Append
import GoSem.ClaimData
import Derived.Laws.Tables
import Derived.Laws.Slices
import Derived.Laws.Strings
import Derived.Laws.Small
import Derived.KernelRfl
import Derived.Test.YtofhhkkncaoneaaDoorChecked
set_option linter.unusedVariables false
set_option linter.unusedSimpArgs false
set_option maxRecDepth 4000
set_option linter.unusedSimpArgs false
set_option linter.unusedVariables false
namespace Go.Ac
open Go.Proofs

/-- May a value be an operand? -/
def okA (k v : Int) : Bool := if k = 1 then decide (v = 0) || decide (v = 1) else if k = 3 then true else decide (-32768 ≤ v) && decide (v ≤ 32767)
def okL (op : Int) (l : List Int) : Bool := l.all (okA (opK op))
def apV (op : Int) (l : List Int) : Int × Int := if okL op l then (resI op (l.getD 0 0) (l.getD (l.length - 1) 0), 0) else (0, 14)

theorem int_bne (a b : Int) : (a != b) = !decide (a = b) := by
  by_cases h : a = b <;> simp [h]
theorem all_take_succ {α : Type} {p : α → Bool} {l : List α} {i : Nat} {x : α} (h : l[i]? = some x) : (l.take (i + 1)).all p = ((l.take i).all p && p x) := by
  have : l.take (i + 1) = l.take i ++ [x] := by
    rw [List.take_add_one, h]; rfl
  rw [this, List.all_append]; simp
theorem not_all {α : Type} {p : α → Bool} {l : List α} {x : α} (hm : x ∈ l) (hx : p x = false) : l.all p = false := by
  rw [List.all_eq_false]; exact ⟨x, hm, by simp [hx]⟩

set_option maxHeartbeats 4000000 in
theorem apply_den (op : Int) (hop : IsOp op) (l : List Int) (hl : l.length = ar op) : den Tryd.prog Cp.cfg 70 [dI op, dL l] = some (.tuple [dI (apV op l).1, dI (apV op l).2]) := by
  have hg := group_den hop
  have har : ar op = 1 ∨ ar op = 2 := by unfold ar; split <;> simp
  have hk0 : ¬ opK op = 0 := by rcases opK_cases op with h | h | h | h <;> omega
  have hin := in_den
  simp only [dI, dB] at hg hin
  refine den_wp Tryd.func70 rfl (by kernel_rfl) rfl rfl ?_
  have hk0' : (opK op == 0) = false := by simp [hk0]
  refine wkc (And.intro @dI.eq_1 (And.intro @dL.eq_1 (And.intro @hg @hk0'))) ?_
  show WP _ _ _ _ _ _
  refine WP.cond _ rfl (fun hb => ?_) (fun hb => ?_)
  · simp [hl] at hb
  clear hb
  refine wk True.intro ?_
  apply WP.loop' (I := fun d s => ∃ i : Nat, i + d = l.length ∧ (l.take i).all (okA (opK op)) = true ∧ SE [(0, dI op), (1, dL l), (6, dI (opK op)), (7, dI (ar op)), (25, dL l), (26, dI l.length), (27, dI i)] [] 0 s) (d := l.length)
  · exact ⟨0, by simp, by simp, SE.mk (by simp [dI, dL, hl]) rfl⟩
  rintro d _ ⟨i, hi, hno, c, rfl⟩
  refine wk (And.intro @dI.eq_1 @dL.eq_1) ?_
  show WP _ _ _ _ _ _
  refine WP.cond _ rfl (fun hb => ?_) (fun hb => ?_)
  · simp at hb
    have hb' : i < l.length := hb
    obtain ⟨v, hv, hvm, hix⟩ := at_lt hb'
    have hv' := encI_at hv
    have hw := w_succ hb' (by omega)
    have hts := all_take_succ (p := okA (opK op)) hv
    have good : okA (opK op) v = true → (if okL op l then (resI op (l.getD 0 0) (l.getD (l.length - 1) 0), (0:Int)) else (0, 14)) = apV op l := fun _ => rfl
    have bad : okA (opK op) v = false → apV op l = (0, 14) := fun h => by
      have : okL op l = false := not_all hvm h
      unfold apV; rw [this]; rfl
    refine wk (And.intro @hix (And.intro @hv' @dL.eq_1)) ?_
    rcases opK_cases op with hk | hk | hk | hk
    · by_cases h0 : v = 0
      · subst h0
        refine wkc (@hk) ?_
        refine loop_next (by simp; exact Is.rfl) ?_
        exact ⟨d - 1, by omega, i + 1, by omega, by rw [hts, hno, hk]; rfl, SE.mk (by simp [dI, hw, dL, hk]) rfl⟩
      · by_cases h1 : v = 1
        · subst h1
          refine wkc (@hk) ?_
          refine loop_next (by simp; exact Is.rfl) ?_
          exact ⟨d - 1, by omega, i + 1, by omega, by rw [hts, hno, hk]; rfl, SE.mk (by simp [dI, hw, dL, hk]) rfl⟩
        · refine wkc (And.intro @hk (And.intro @h0 (And.intro @h1 @int_bne))) ?_
          rw [bad (by rw [hk]; simp [okA, h0, h1])]
          show retQ _ _ _ _ _
          exact ⟨.inr rfl, _, _, rfl, rfl⟩
    · cases hr : (decide (-32768 ≤ v) && decide (v ≤ 32767)) with
      | true =>
        have hin' := hin v
        rw [hr] at hin'
        refine wkc (And.intro @hk @hin') ?_
        refine loop_next (by simp; exact Is.rfl) ?_
        exact ⟨d - 1, by omega, i + 1, by omega, by rw [hts, hno, hk]; simp [okA]; simpa using hr, SE.mk (by simp [dI, hw, dL, hk]) rfl⟩
      | false =>
        have hin' := hin v
        rw [hr] at hin'
        refine wkc (And.intro @hk @hin') ?_
        rw [bad (by rw [hk]; simp only [okA]; simpa using hr)]
        show retQ _ _ _ _ _
        exact ⟨.inr rfl, _, _, rfl, rfl⟩
    · refine wkc (@hk) ?_
      refine loop_next (by simp; exact Is.rfl) ?_
      exact ⟨d - 1, by omega, i + 1, by omega, by rw [hts, hno, hk]; rfl, SE.mk (by simp [dI, hw, dL, hk]) rfl⟩
    · cases hr : (decide (-32768 ≤ v) && decide (v ≤ 32767)) with
      | true =>
        have hin' := hin v
        rw [hr] at hin'
        refine wkc (And.intro @hk @hin') ?_
        refine loop_next (by simp; exact Is.rfl) ?_
        exact ⟨d - 1, by omega, i + 1, by omega, by rw [hts, hno, hk]; simp [okA]; simpa using hr, SE.mk (by simp [dI, hw, dL, hk]) rfl⟩
      | false =>
        have hin' := hin v
        rw [hr] at hin'
        refine wkc (And.intro @hk @hin') ?_
        rw [bad (by rw [hk]; simp only [okA]; simpa using hr)]
        show retQ _ _ _ _ _
        exact ⟨.inr rfl, _, _, rfl, rfl⟩
  · simp at hb
    have hil : i = l.length := by omega
    have hall : okL op l = true := by unfold okL; rw [← hno, hil, List.take_length]
    obtain ⟨x, hx⟩ : ∃ x, l[0]? = some x := ⟨l[0]'(by omega), by simp⟩
    obtain ⟨y, hy⟩ : ∃ y, l[l.length - 1]? = some y := ⟨l[l.length - 1]'(by omega), by simp⟩
    have hx' := encI_at hx
    have hy' := encI_at hy
    have hres : apV op l = (resI op x y, 0) := by
      unfold apV; rw [hall]; simp [List.getD, hx, hy]
    rw [hres]
    have i0 : idx 0 (ar op) = some 0 := by have := idx_lt (i := 0) (n := ar op) (by omega); simpa using this
    have i1 : idx ((ar op : Int) - 1) (ar op) = some (ar op - 1) := by
      have := idx_lt (i := ar op - 1) (n := ar op) (by omega)
      rwa [show ((ar op - 1 : Nat) : Int) = (ar op : Int) - 1 by omega] at this
    have w1 : IntKind.i64.wrap ((ar op : Int) - 1) = (ar op : Int) - 1 := by rw [w_id'] <;> omega
    rw [hl] at hy'
    refine wk (And.intro @dL.eq_1 (And.intro @hl (And.intro @i0 (And.intro @i1 (And.intro @w1 (And.intro @hx' @hy')))))) ?_
    show WP _ _ _ _ _ _
    refine WP.cond _ rfl (fun hb => ?_) (fun hb => ?_)
    · have hk : opK op = 2 := by simpa using hb
      have hc := compute_den op x y hk
      simp only [dI] at hc
      refine wkc (@hc) ?_
      show retQ _ _ _ _ _
      exact ⟨.inr rfl, _, _, rfl, by simp only [resI, if_pos hk]; rfl⟩
    · have hk : ¬ opK op = 2 := by simpa using hb
      have hh := holds_den op x y hop hk
      have ht := truth_den (hldI op x y)
      simp only [dI, dB] at hh ht
      refine wkc (And.intro @hh @ht) ?_
      show retQ _ _ _ _ _
      exact ⟨.inr rfl, _, _, rfl, by simp only [resI, if_neg hk]; rfl⟩
end Go.Ac
